/- What the one operation of the program's code gives is reckoned without addresses, and the reckoning is right. -/
import Derived.WalkKit
import Derived.LoopN
import Derived.MapKept
import Derived.Lib.ItoaNum
set_option linter.unusedVariables false
namespace Go.Ped
open Go.RowKit
abbrev Blk:=Nat→Prop
inductive AV where
 |int (k:IntKind) (n:Int)
 |bool (b:Bool)
 |str (s:ByteArray)
 |agg (cs:List AV)
 |tup (vs:List AV)
 |seq (es:List AV) (clip:Bool)
 |nils
 |row (id off len:Nat)
 |tptr (cs:List AV)
 |elt (id k off:Nat)
 |nilp
 |map (id:Nat)
 |tmap (ks vs:List AV)
 |nilmap
 |clo (f:FuncId) (first cap:List AV)
 |nilf
 |iface (t:TypeId) (v:AV)
 |nili
 |own (sz:Nat) (es:List AV)
 |emp
 |dead
instance:Inhabited AV:=⟨.dead⟩
def AV.cells:AV→List AV
 | .agg cs=>cs
 |v=>[v]
structure Bl where
 blk:Nat
 sz:Nat
 cap:Nat
abbrev Beta:=Nat→Option Bl
def noB:Beta:=fun _=>none
inductive V (S:Blk):Beta→World→Value→AV→Prop where
 |int {β:Beta} {w:World} (k:IntKind) (n:Int):V S β w (.int k n) (.int k n)
 |bool {β:Beta} {w:World} (b:Bool):V S β w (.bool b) (.bool b)
 |str {β:Beta} {w:World} (s:ByteArray):V S β w (.string s) (.str s)
 |agg {β:Beta} {w:World} (vs:List Value) (cs:List AV) (hl:vs.length=cs.length) (h:∀(i:Nat) v c,vs[i]? =some v→cs[i]? =some c→V S β w v c):V S β w (.agg vs.toArray) (.agg cs)
 |tup {β:Beta} {w:World} (vs:List Value) (cs:List AV) (hl:vs.length=cs.length) (h:∀(i:Nat) v c,vs[i]? =some v→cs[i]? =some c→V S β w v c):V S β w (.tuple vs.toArray) (.tup cs)
 |seq {β:Beta} {w:World} (p:Option Addr) (cap sz b o:Nat) (es:List AV) (clip:Bool) (U:Nat→Nat→Value) (hcap:es.length≤cap) (hmax:cap≤maxLen) (hclip:clip=true→cap=es.length)
  (hp:es≠[]→p=some ⟨b,o,none⟩∧S b) (hsz:∀(i:Nat) (e:AV),es[i]? =some e→e.cells.length=sz)
  (hc:∀(i j:Nat) (e c:AV),es[i]? =some e→e.cells[j]? =some c→w.cell? ⟨b,o+i*sz+j,none⟩=some (U i j))
  (hv:∀(i j:Nat) (e c:AV),es[i]? =some e→e.cells[j]? =some c→V S noB w (U i j) c) (hnil:p=none→cap=0:=by first|assumption|(intro h;cases h;done)|(intro _;rfl)):V S β w (.slice p es.length cap) (.seq es clip)
 |row {β:Beta} {w:World} (id off len:Nat) (a:Addr) (bi:Bl) (hb:β id=some bi) (hle:off+len≤bi.cap) (ha:off<bi.cap→a=⟨bi.blk,off*bi.sz,none⟩):V S β w (.slice (some a) len (bi.cap-off)) (.row id off len)
 |tptr {β:Beta} {w:World} (b o:Nat) (cs:List AV) (U:Nat→Value) (hS:S b) (hc:∀(j:Nat) (c:AV),cs[j]? =some c→w.cell? ⟨b,o+j,none⟩=some (U j))
  (hv:∀(j:Nat) (c:AV),cs[j]? =some c→V S noB w (U j) c):V S β w (.pointer (some ⟨b,o,none⟩)) (.tptr cs)
 |elt {β:Beta} {w:World} (id k off:Nat) (bi:Bl) (hb:β id=some bi):V S β w (.pointer (some ⟨bi.blk,k*bi.sz+off,none⟩)) (.elt id k off)
 |nilp {β:Beta} {w:World}:V S β w (.pointer none) .nilp
 |map {β:Beta} {w:World} (id:Nat) (bi:Bl) (hb:β id=some bi):V S β w (.map (some bi.blk)) (.map id)
 |tmap {β:Beta} {w:World} (r:Nat) (es:Array MapEntry) (cl:Nat) (ks vs:List AV) (hS:S r) (hr:w.heap[r]? =some (.map es cl)) (hk:ks.length=es.size) (hl:vs.length=es.size)
  (hkv:∀(i:Nat) e k,es[i]? =some e→ks[i]? =some k→V S noB w e.key k) (hvv:∀(i:Nat) e v,es[i]? =some e→vs[i]? =some v→V S noB w e.val v):V S β w (.map (some r)) (.tmap ks vs)
 |nilmap {β:Beta} {w:World}:V S β w (.map none) .nilmap
 |nils {β:Beta} {w:World}:V S β w (.slice none 0 0) .nils
 |clo {β:Beta} {w:World} (f:FuncId) (fs gs:List Value) (first cap:List AV) (hf:fs.length=first.length) (hg:gs.length=cap.length)
  (hfv:∀(i:Nat) v c,fs[i]? =some v→first[i]? =some c→V S β w v c) (hgv:∀(i:Nat) v c,gs[i]? =some v→cap[i]? =some c→V S β w v c):V S β w (.func (.func f) fs.toArray gs.toArray) (.clo f first cap)
 |nilf {β:Beta} {w:World}:V S β w .nilFunc .nilf
 |iface {β:Beta} {w:World} (t:TypeId) (v:Value) (x:AV) (h:V S β w v x):V S β w (.iface t v) (.iface t x)
 |nili {β:Beta} {w:World}:V S β w .nilIface .nili
 |own {β:Beta} {w:World} (p:Option Addr) (cap sz:Nat) (es:List AV):V S β w (.slice p es.length cap) (.own sz es)
 |emp {β:Beta} {w:World} (a:Addr) (cap:Nat) (hmax:cap≤maxLen):V S β w (.slice (some a) 0 cap) .emp
 |dead {β:Beta} {w:World} (v:Value):V S β w v .dead
def Agr (S:Blk) (w w':World):Prop:=∀b,S b→w'.heap[b]? =w.heap[b]?
theorem Agr.refl (S:Blk) (w:World):Agr S w w:=fun _ _=>rfl
theorem Agr.trans {S:Blk} {a b c:World} (h:Agr S a b) (k:Agr S b c):Agr S a c:=fun i hi=>(k i hi).trans (h i hi)
theorem Agr.less {S T:Blk} {a b:World} (h:Agr T a b) (hs:∀i,S i→T i):Agr S a b:=fun i hi=>h i (hs i hi)
theorem Agr.cell {S:Blk} {w w':World} (h:Agr S w w') {b o:Nat} (hb:S b):w'.cell? ⟨b,o,none⟩=w.cell? ⟨b,o,none⟩:=
 World.cell?_of_block (w:=w) (h b hb)
theorem V.mono {S S':Blk} {β β':Beta} {w w':World} (hS:∀b,S b→S' b) (hβ:∀i b,β i=some b→β' i=some b) (ha:Agr S w w') {v:Value} {x:AV} (h:V S β w v x):V S' β' w' v x:=by
 induction h generalizing β' with
 |int k n=>exact .int k n
 |bool b=>exact .bool b
 |str s=>exact .str s
 |agg vs cs hl h ih=>exact .agg vs cs hl fun i v c h1 h2=>ih i v c h1 h2 hβ ha
 |tup vs cs hl h ih=>exact .tup vs cs hl fun i v c h1 h2=>ih i v c h1 h2 hβ ha
 |seq p cap sz b o es clip U hcap hmax hclip hp hsz hc hv hnil ih=>
  refine .seq p cap sz b o es clip U hcap hmax hclip (fun hne=>⟨(hp hne).1,hS _ (hp hne).2⟩) hsz (fun i j e c h1 h2=> ?_) (fun i j e c h1 h2=>ih i j e c h1 h2 (fun _ _ h=>h) ha)
  have hne:es≠[]:=by rintro rfl;simp at h1
  exact (ha.cell (hp hne).2).trans (hc i j e c h1 h2)
 |row id off len a bi hb hle ha'=>exact .row id off len a bi (hβ _ _ hb) hle ha'
 |tptr b o cs U hb hc hv ih=>exact .tptr b o cs U (hS _ hb) (fun j c h=>(ha.cell hb).trans (hc j c h)) (fun j c h=>ih j c h (fun _ _ h=>h) ha)
 |elt id k off bi hb=>exact .elt id k off bi (hβ _ _ hb)
 |nilp=>exact .nilp
 |map id bi hb=>exact .map id bi (hβ _ _ hb)
 |tmap r es cl ks vs hb hr hk hl hkv hvv ih1 ih2=>exact .tmap r es cl ks vs (hS _ hb) ((ha r hb).trans hr) hk hl (fun i e k h1 h2=>ih1 i e k h1 h2 (fun _ _ h=>h) ha) (fun i e k h1 h2=>ih2 i e k h1 h2 (fun _ _ h=>h) ha)
 |nilmap=>exact .nilmap
 |nils=>exact .nils
 |clo f fs gs first cap hf hg hfv hgv ih1 ih2=>exact .clo f fs gs first cap hf hg (fun i v c h1 h2=>ih1 i v c h1 h2 hβ ha) (fun i v c h1 h2=>ih2 i v c h1 h2 hβ ha)
 |nilf=>exact .nilf
 |iface t v x h ih=>exact .iface t v x (ih hβ ha)
 |nili=>exact .nili
 |own p cap sz es=>exact .own p cap sz es
 |emp a cap hm=>exact .emp a cap hm
 |dead v=>exact .dead v
theorem V.up {S:Blk} {β:Beta} {w:World} {v:Value} {x:AV} (h:V S noB w v x):V S β w v x:=h.mono (fun _ h=>h) (fun _ _ h=>by cases h) (Agr.refl S w)
theorem V.cells {S:Blk} {β:Beta} {w:World} {v:Value} {x:AV} (h:V S β w v x) (hx:x≠ .dead):
  v.cells.size=x.cells.length∧∀(j:Nat) c,x.cells[j]? =some c→∃u,v.cells[j]? =some u∧V S β w u c:=by
 have one:∀{v:Value} {x:AV},V S β w v x→v.cells= #[v]→x.cells=[x]→v.cells.size=x.cells.length∧∀(j:Nat) c,x.cells[j]? =some c→∃u,v.cells[j]? =some u∧V S β w u c:=by
  intro v x h e1 e2
  rw [e1,e2]
  refine ⟨rfl,fun j c hj=> ?_⟩
  cases j with
  |zero=>simp at hj;subst hj;exact ⟨v,by simp,h⟩
  |succ j=>simp at hj
 cases h with
 |agg vs cs hl h=>
  refine ⟨by simpa [Value.cells,AV.cells] using hl,fun j c hj=> ?_⟩
  simp only [AV.cells] at hj
  have hlt:j<cs.length:=(List.getElem?_eq_some_iff.1 hj).1
  have hv:vs[j]? =some (vs[j]'(by omega)):=List.getElem?_eq_getElem (by omega)
  exact ⟨vs[j]'(by omega),by simp [Value.cells,hv],h j _ c hv hj⟩
 |dead v=>exact absurd rfl hx
 |int k n=>exact one (.int k n) rfl rfl
 |bool b=>exact one (.bool b) rfl rfl
 |str s=>exact one (.str s) rfl rfl
 |tup vs cs hl h=>exact one (.tup vs cs hl h) rfl rfl
 |seq p cap sz b o es clip U hcap hmax hclip hp hsz hc hv=>exact one (.seq p cap sz b o es clip U hcap hmax hclip hp hsz hc hv) rfl rfl
 |row id off len a bi hb hle ha=>exact one (.row id off len a bi hb hle ha) rfl rfl
 |tptr b o cs U hb hc hv=>exact one (.tptr b o cs U hb hc hv) rfl rfl
 |elt id k off bi hb=>exact one (.elt id k off bi hb) rfl rfl
 |nilp=>exact one .nilp rfl rfl
 |map id bi hb=>exact one (.map id bi hb) rfl rfl
 |tmap r es cl ks vs hb hr hk hl hkv hvv=>exact one (.tmap r es cl ks vs hb hr hk hl hkv hvv) rfl rfl
 |nilmap=>exact one .nilmap rfl rfl
 |nils=>exact one .nils rfl rfl
 |clo f fs gs first cap hf hg hfv hgv=>exact one (.clo f fs gs first cap hf hg hfv hgv) rfl rfl
 |nilf=>exact one .nilf rfl rfl
 |iface t v x h=>exact one (.iface t v x h) rfl rfl
 |nili=>exact one .nili rfl rfl
 |own p cap sz es=>exact one (.own p cap sz es) rfl rfl
 |emp a cap hm=>exact one (.emp a cap hm) rfl rfl
def look {α:Type} (l:List (Nat×α)) (k:Nat):Option α:=
 match l with
 |[]=>none
 |(i,x)::r=>if i=k then some x else look r k
def putL {α:Type} (l:List (Nat×α)) (k:Nat) (x:α):List (Nat×α):=
 match l with
 |[]=>[(k,x)]
 |(i,y)::r=>if i=k then (k,x)::r else (i,y)::putL r k x
theorem look_put {α:Type} (l:List (Nat×α)) (k j:Nat) (x:α):look (putL l k x) j=if k=j then some x else look l j:=by
 induction l with
 |nil=>simp [putL,look]
 |cons h r ih=>
  obtain ⟨i,y⟩:=h
  unfold putL
  by_cases hik:i=k
  ·subst hik
   rw [if_pos rfl]
   simp only [look]
   by_cases hj:i=j<;>simp [hj]
  ·rw [if_neg hik]
   simp only [look,ih]
   by_cases hj:i=j
   ·subst hj;simp [Ne.symm hik]
   ·simp [hj]
inductive Ob where
 |var (cs:List AV)
 |row (sz:Nat) (es:List AV)
 |map (ks vs:List AV)
 |dead
def HR (S:Blk) (β:Beta) (w:World) (bi:Bl) (es:List AV):Prop:=
 ∃cur t,w.heap[bi.blk]? =some (.cells cur t (0,0))∧cur.size=bi.cap*bi.sz∧es.length≤bi.cap∧bi.cap≤maxLen∧(∀(i:Nat) (e:AV),es[i]? =some e→e.cells.length=bi.sz)∧
  ∀(i j:Nat) (e c:AV),es[i]? =some e→e.cells[j]? =some c→∃u,cur[i*bi.sz+j]? =some u∧V S β w u c
def txt:AV→Bool
 | .str _=>true
 |_=>false
def HO (S:Blk) (β:Beta) (w:World) (id:Nat):Ob→Prop
 | .var cs=>∃bi,β id=some bi∧bi.cap=1∧HR S β w bi [.agg cs]
 | .row sz es=>∃bi,β id=some bi∧bi.sz=sz∧HR S β w bi es
 | .map ks vs=>∃bi es cl,β id=some bi∧w.heap[bi.blk]? =some (.map es cl)∧ks.length=es.size∧vs.length=es.size∧
  (∀(i:Nat) e k,es[i]? =some e→ks[i]? =some k→V S β w e.key k)∧(∀(i:Nat) e v,es[i]? =some e→vs[i]? =some v→V S β w e.val v)∧(ks.all txt=true→MapKept.Stamped es cl)
 | .dead=>∃bi,β id=some bi
theorem HR.mono {S S':Blk} {β β':Beta} {w w':World} (hS:∀b,S b→S' b) (hβ:∀i b,β i=some b→β' i=some b) (ha:Agr S w w') {bi:Bl} {es:List AV} (hb:w'.heap[bi.blk]? =w.heap[bi.blk]?)
  (h:HR S β w bi es):HR S' β' w' bi es:=by
 obtain ⟨cur,t,h1,h2,h3,h4,h5,h6⟩:=h
 refine ⟨cur,t,hb.trans h1,h2,h3,h4,h5,fun i j e c he hc=> ?_⟩
 obtain ⟨u,hu,hv⟩:=h6 i j e c he hc
 exact ⟨u,hu,hv.mono hS hβ ha⟩
theorem HO.mono {S S':Blk} {β β':Beta} {w w':World} (hS:∀b,S b→S' b) (hβ:∀i b,β i=some b→β' i=some b) (ha:Agr S w w') {id:Nat} {o:Ob}
  (hb:∀bi,β id=some bi→w'.heap[bi.blk]? =w.heap[bi.blk]?) (h:HO S β w id o):HO S' β' w' id o:=by
 cases o with
 |var cs=>obtain ⟨bi,h1,h2,h3⟩:=h;exact ⟨bi,hβ _ _ h1,h2,h3.mono hS hβ ha (hb bi h1)⟩
 |row sz es=>obtain ⟨bi,h1,h2,h3⟩:=h;exact ⟨bi,hβ _ _ h1,h2,h3.mono hS hβ ha (hb bi h1)⟩
 |map ks vs=>
  obtain ⟨bi,es,cl,h1,h2,h3,h4,h5,h6,h7⟩:=h
  exact ⟨bi,es,cl,hβ _ _ h1,(hb bi h1).trans h2,h3,h4,fun i e k a b=>(h5 i e k a b).mono hS hβ ha,fun i e v a b=>(h6 i e v a b).mono hS hβ ha,h7⟩
 |dead=>obtain ⟨bi,h1⟩:=h;exact ⟨bi,hβ _ _ h1⟩
structure Fr where
 w0:World
 S0:Blk
 M:Blk
 β0:Beta
abbrev given:Nat:=100000
abbrev mid:Nat:=50000
def Tabs (w:World):Prop:=∃t fz,w.heap[0]? =some (.cells ((Lib.pow10Tab.map fun z=>Value.int .u64 z).toArray) t fz)
def Ob.at:Ob→Nat→Option AV
 | .var cs,j=>cs[j]?
 | .map _ vs,j=>vs[j]?
 |_,_=>none
def slotV (w:World) (b j:Nat):Option Value:=
 match w.heap[b]? with
 |some (.cells cur _ _)=>cur[j]?
 |some (.map es _)=>es[j]?.map (·.val)
 |_=>none
theorem slotV_same {w w':World} {b:Nat} (h:w'.heap[b]? =w.heap[b]?) (j:Nat):slotV w' b j=slotV w b j:=by unfold slotV;rw [h]
structure HidB (F:Fr) (S:Blk) (β:Beta) (hp:List (Nat×Ob)) (w:World) (b:Nat):Prop where
 ns:¬S b
 lt:b<w.heap.size
 fr:F.M b∨F.w0.heap.size≤b
 ap:∀i bi,β i=some bi→(∀o,look hp i=some o→o≠ .dead)→bi.blk≠b
def OwnAt (β:Beta) (hp:List (Nat×Ob)) (w:World) (id j sz:Nat) (es:List AV) (v:Value):Prop:=
 ∃o bi,look hp id=some o∧β id=some bi∧o.at j=some (.own sz es)∧slotV w bi.blk j=some v
structure Hid (F:Fr) (S:Blk) (β:Beta) (hp:List (Nat×Ob)) (w:World):Prop where
 own:∀id o j sz es,look hp id=some o→o.at j=some (.own sz es)→∃v,OwnAt β hp w id j sz es v∧
  ((es=[]∧v= .slice none 0 0)∨∃b cap,v= .slice (some ⟨b,0,none⟩) es.length cap∧es≠[]∧HR S noB w ⟨b,sz,cap⟩ es∧HidB F S β hp w b)
 one:∀id j sz es id' j' sz' es' b n c n' c',OwnAt β hp w id j sz es (.slice (some ⟨b,0,none⟩) n c)→OwnAt β hp w id' j' sz' es' (.slice (some ⟨b,0,none⟩) n' c')→id=id'∧j=j'
 new:∀id j sz es b n c,OwnAt β hp w id j sz es (.slice (some ⟨b,0,none⟩) n c)→id<mid→F.w0.heap.size≤b
theorem Ob.at_live {o:Ob} {j:Nat} {x:AV} (h:o.at j=some x):o≠ .dead:=by rintro rfl;cases h
theorem Hid.noOwn {F:Fr} {S:Blk} {β:Beta} {hp:List (Nat×Ob)} {w:World} (h:∀id o j sz es,look hp id=some o→o.at j≠some (.own sz es)):Hid F S β hp w:=
 ⟨fun id o j sz es h1 h2=>absurd h2 (h id o j sz es h1),fun id j sz es id' j' sz' es' b n c n' c' h1 _=>by
  obtain ⟨o,bi,a,_,c,_⟩:=h1
  exact absurd c (h id o j sz es a),fun id j sz es b n c h1 _=>by
  obtain ⟨o,bi,a,_,c,_⟩:=h1
  exact absurd c (h id o j sz es a)⟩
theorem Hid.step {F:Fr} {S S':Blk} {β β':Beta} {hp hp':List (Nat×Ob)} {w w':World} (H:Hid F S β hp w) (hS:∀b,S b→S' b) (ha:Agr S w w')
  (hinj:∀i j bi bj,β' i=some bi→β' j=some bj→(∀o,look hp' i=some o→o≠ .dead)→(∀o,look hp' j=some o→o≠ .dead)→bi.blk=bj.blk→i=j)
  (hc:∀id' o' j sz es,look hp' id'=some o'→o'.at j=some (.own sz es)→∃id o bi bi',(id'<mid→id<mid)∧look hp id=some o∧o.at j=some (.own sz es)∧β id=some bi∧β' id'=some bi'∧bi'.blk=bi.blk∧slotV w' bi.blk j=slotV w bi.blk j)
  (hb:∀b,HidB F S β hp w b→(∃id j sz es n c,OwnAt β hp w id j sz es (.slice (some ⟨b,0,none⟩) n c)∧∃id',(∃bi bi',β id=some bi∧β' id'=some bi'∧bi'.blk=bi.blk)∧∃o',look hp' id'=some o'∧o'.at j=some (.own sz es))→w'.heap[b]? =w.heap[b]? ∧HidB F S' β' hp' w' b):Hid F S' β' hp' w':=by
 have back:∀{id' j sz es v},OwnAt β' hp' w' id' j sz es v→∃id bi bi',(id'<mid→id<mid)∧OwnAt β hp w id j sz es v∧β id=some bi∧β' id'=some bi'∧bi'.blk=bi.blk∧(∀o,look hp' id'=some o→o≠ .dead):=by
  rintro id' j sz es v ⟨o',bi',h1,h2,h3,h4⟩
  obtain ⟨id,o,bi,bi2,km,k1,k2,k3,k4,k5,k6⟩:=hc id' o' j sz es h1 h3
  rw [h2] at k4;injection k4 with k4;subst k4
  refine ⟨id,bi,bi',km,⟨o,bi,k1,k3,k2,?_⟩,k3,h2,k5,fun o2 h=> ?_⟩
  ·rw [←k6,←k5];exact h4
  ·rw [h1] at h;injection h with h;subst h;exact Ob.at_live h3
 refine ⟨fun id' o' j sz es h1 h2=> ?_,fun id j sz es id' j' sz' es' b n c n' c' h1 h2=> ?_,fun id j sz es b n c h1 h2=> ?_⟩
 ·obtain ⟨id,o,bi,bi',_,k1,k2,k3,k4,k5,k6⟩:=hc id' o' j sz es h1 h2
  obtain ⟨v,⟨o2,bi2,q1,q2,q3,q4⟩,hv⟩:=H.own id o j sz es k1 k2
  rw [k3] at q2;injection q2 with q2;subst q2
  refine ⟨v,⟨o',bi',h1,k4,h2,by rw [k5,k6];exact q4⟩,?_⟩
  rcases hv with hv|⟨b,cap,r1,r2,r3,r4⟩
  ·exact .inl hv
  ·subst r1
   obtain ⟨s1,s2⟩:=hb b r4 ⟨id,j,sz,es,es.length,cap,⟨o2,bi,q1,k3,q3,q4⟩,id',⟨bi,bi',k3,k4,k5⟩,o',h1,h2⟩
   have r1:Value.slice (some ⟨b,0,none⟩) es.length cap= .slice (some ⟨b,0,none⟩) es.length cap:=rfl
   exact .inr ⟨b,cap,r1,r2,r3.mono hS (fun _ _ h=>h) ha s1,s2⟩
 ·obtain ⟨i1,b1,b1',_,a1,a2,a3,a4,a5⟩:=back h1
  obtain ⟨i2,b2,b2',_,c1,c2,c3,c4,c5⟩:=back h2
  obtain ⟨e1,e2⟩:=H.one _ _ _ _ _ _ _ _ _ _ _ _ _ a1 c1
  subst e1
  rw [a2] at c2;injection c2 with c2;subst c2
  exact ⟨hinj id id' b1' b2' a3 c3 a5 c5 (a4.trans c4.symm),e2⟩
 ·obtain ⟨i1,b1,b1',km,a1,_⟩:=back h1
  exact H.new _ _ _ _ _ _ _ a1 (km h2)
structure Mem0 (F:Fr) (S:Blk) (β:Beta) (hp:List (Nat×Ob)) (w:World):Prop where
 tab:Tabs F.w0∧¬F.M 0
 os:w.os=F.w0.os
 tape:w.tape=F.w0.tape
 output:w.output=F.w0.output
 size:F.w0.heap.size≤w.heap.size
 keep:∀b,b<F.w0.heap.size→¬F.M b→w.heap[b]? =F.w0.heap[b]?
 obs:∀id o,look hp id=some o→HO S β w id o
 dom:∀id bi,β id=some bi→∃o,look hp id=some o
 inj:∀i j bi bj,β i=some bi→β j=some bj→(∀o,look hp i=some o→o≠ .dead)→(∀o,look hp j=some o→o≠ .dead)→bi.blk=bj.blk→i=j
 own:∀i bi,β i=some bi→¬S bi.blk∧bi.blk<w.heap.size∧((mid≤i∧F.M bi.blk)∨F.w0.heap.size≤bi.blk)
 sub:∀b,S b→b<w.heap.size
 base:∀b,F.S0 b→S b
 new:∀b,S b→F.S0 b∨F.w0.heap.size≤b
 giv:∀i b,given≤i→F.β0 i=some b→β i=some b
structure Mem (F:Fr) (S:Blk) (β:Beta) (hp:List (Nat×Ob)) (w:World):Prop extends Mem0 F S β hp w where
 hid:Hid F S β hp w
theorem Mem.mk' {F:Fr} {S:Blk} {β:Beta} {hp:List (Nat×Ob)} {w:World} (M:Mem0 F S β hp w) (h:Mem0 F S β hp w→Hid F S β hp w):Mem F S β hp w:=⟨M,h M⟩
theorem Mem.tabw {F:Fr} {S:Blk} {β:Beta} {hp:List (Nat×Ob)} {w:World} (M:Mem F S β hp w):Tabs w∧0<F.w0.heap.size:=by
 obtain ⟨⟨t,fz,h⟩,hM⟩:=M.tab
 have hlt:0<F.w0.heap.size:=(Array.getElem?_eq_some_iff.1 h).1
 exact ⟨⟨t,fz,(M.keep 0 hlt hM).trans h⟩,hlt⟩
theorem Mem.not0 {F:Fr} {S:Blk} {β:Beta} {hp:List (Nat×Ob)} {w:World} (M:Mem F S β hp w) {i:Nat} {bi:Bl} (h:β i=some bi):bi.blk≠0:=by
 intro e
 rcases (M.own i bi h).2.2 with ⟨_,c⟩|c
 ·rw [e] at c;exact M.tab.2 c
 ·rw [e] at c;have:=M.tabw.2;omega
def lookD (env:List (Nat×AV)) (t:Nat):AV:=(look env t).getD .dead
def Env (S:Blk) (β:Beta) (w:World) (n:Nat) (env:List (Nat×AV)) (a:Act):Prop:=
 a.tmps.size=n∧a.defers=[]∧∀t,V S β w (a.eval (.tmp t)) (lookD env t)
structure Ext (S S':Blk) (β β':Beta) (w w':World):Prop where
 hS:∀b,S b→S' b
 hβ:∀i b,β i=some b→β' i=some b
 agr:Agr S w w'
theorem Ext.refl (S:Blk) (β:Beta) (w:World):Ext S S β β w w:=⟨fun _ h=>h,fun _ _ h=>h,Agr.refl S w⟩
theorem Ext.trans {S S' S'':Blk} {β β' β'':Beta} {w w' w'':World} (h:Ext S S' β β' w w') (k:Ext S' S'' β' β'' w' w''):Ext S S'' β β'' w w'':=
 ⟨fun b hb=>k.hS b (h.hS b hb),fun i b hb=>k.hβ i b (h.hβ i b hb),h.agr.trans (k.agr.less h.hS)⟩
theorem V.ext {S S':Blk} {β β':Beta} {w w':World} (e:Ext S S' β β' w w') {v:Value} {x:AV} (h:V S β w v x):V S' β' w' v x:=h.mono e.hS e.hβ e.agr
theorem Env.ext {S S':Blk} {β β':Beta} {w w':World} (e:Ext S S' β β' w w') {n:Nat} {env:List (Nat×AV)} {a:Act} (h:Env S β w n env a):Env S' β' w' n env a:=
 ⟨h.1,h.2.1,fun t=>(h.2.2 t).ext e⟩
theorem Act.eval_put_same {a:Act} {d:Nat} (h:d<a.tmps.size) (v:Value):(a.put (some d) v).eval (.tmp d)=v:=by
 simp [Act.put,Act.eval,h]
theorem Act.eval_put_ne {a:Act} {d t:Nat} (h:d≠t) (v:Value):(a.put (some d) v).eval (.tmp t)=a.eval (.tmp t):=by
 simp only [Act.put,Act.eval,Array.getD_eq_getD_getElem?]
 rw [Array.getElem?_setIfInBounds_ne h]
theorem Env.put {S:Blk} {β:Beta} {w:World} {n:Nat} {env:List (Nat×AV)} {a:Act} (h:Env S β w n env a) {d:Nat} (hd:d<n) {v:Value} {x:AV} (hv:V S β w v x):
  Env S β w n (putL env d x) (a.put (some d) v):=by
 obtain ⟨h1,h2,h3⟩:=h
 refine ⟨by simpa [Act.put] using h1,by simpa [Act.put] using h2,fun t=> ?_⟩
 unfold lookD
 rw [look_put]
 by_cases e:d=t
 ·subst e
  rw [if_pos rfl,Act.eval_put_same (by omega)]
  exact hv
 ·rw [if_neg e,Act.eval_put_ne e]
  exact h3 t
mutual
def AV.beq:AV→AV→Bool
 | .int k n,.int k' n'=>decide (k=k')&&decide (n=n')
 | .bool b,.bool b'=>decide (b=b')
 | .str s,.str s'=>decide (s=s')
 | .agg cs,.agg cs'=>AV.beqL cs cs'
 | .tup cs,.tup cs'=>AV.beqL cs cs'
 | .seq es c,.seq es' c'=>AV.beqL es es'&&decide (c=c')
 | .row i o l,.row i' o' l'=>decide (i=i')&&decide (o=o')&&decide (l=l')
 | .tptr cs,.tptr cs'=>AV.beqL cs cs'
 | .elt i k o,.elt i' k' o'=>decide (i=i')&&decide (k=k')&&decide (o=o')
 | .nilp,.nilp=>true
 | .map i,.map i'=>decide (i=i')
 | .tmap ks vs,.tmap ks' vs'=>AV.beqL ks ks'&&AV.beqL vs vs'
 | .nilmap,.nilmap=>true
 | .nils,.nils=>true
 | .clo f a b,.clo f' a' b'=>decide (f=f')&&AV.beqL a a'&&AV.beqL b b'
 | .nilf,.nilf=>true
 | .iface t v,.iface t' v'=>decide (t=t')&&AV.beq v v'
 | .nili,.nili=>true
 | .emp,.emp=>true
 | .own a es,.own a' es'=>decide (a=a')&&AV.beqL es es'
 | .dead,.dead=>true
 |_,_=>false
def AV.beqL:List AV→List AV→Bool
 |[],[]=>true
 |x::r,y::s=>AV.beq x y&&AV.beqL r s
 |_,_=>false
end
mutual
theorem AV.beq_eq:∀(x y:AV),AV.beq x y=true→x=y
 | .int k n,y,h=>by cases y<;>simp [AV.beq] at h;obtain ⟨rfl,rfl⟩:=h;rfl
 | .bool b,y,h=>by cases y<;>simp [AV.beq] at h;subst h;rfl
 | .str s,y,h=>by cases y<;>simp [AV.beq] at h;subst h;rfl
 | .agg cs,y,h=>by
   cases y with
   |agg cs'=>simp only [AV.beq] at h;rw [AV.beqL_eq cs cs' h]
   |_=>simp [AV.beq] at h
 | .tup cs,y,h=>by
   cases y with
   |tup cs'=>simp only [AV.beq] at h;rw [AV.beqL_eq cs cs' h]
   |_=>simp [AV.beq] at h
 | .seq es c,y,h=>by
   cases y with
   |seq es' c'=>simp only [AV.beq,Bool.and_eq_true,decide_eq_true_eq] at h;rw [AV.beqL_eq es es' h.1,h.2]
   |_=>simp [AV.beq] at h
 | .row i o l,y,h=>by cases y<;>simp [AV.beq] at h;obtain ⟨⟨rfl,rfl⟩,rfl⟩:=h;rfl
 | .tptr cs,y,h=>by
   cases y with
   |tptr cs'=>simp only [AV.beq] at h;rw [AV.beqL_eq cs cs' h]
   |_=>simp [AV.beq] at h
 | .elt i o l,y,h=>by cases y<;>simp [AV.beq] at h;obtain ⟨⟨rfl,rfl⟩,rfl⟩:=h;rfl
 | .nilp,y,h=>by cases y<;>simp [AV.beq] at h;rfl
 | .map i,y,h=>by cases y<;>simp [AV.beq] at h;subst h;rfl
 | .tmap ks vs,y,h=>by
   cases y with
   |tmap ks' vs'=>simp only [AV.beq,Bool.and_eq_true] at h;rw [AV.beqL_eq ks ks' h.1,AV.beqL_eq vs vs' h.2]
   |_=>simp [AV.beq] at h
 | .nilmap,y,h=>by cases y<;>simp [AV.beq] at h;rfl
 | .nils,y,h=>by cases y<;>simp [AV.beq] at h;rfl
 | .clo f a b,y,h=>by
   cases y with
   |clo f' a' b'=>simp only [AV.beq,Bool.and_eq_true,decide_eq_true_eq] at h;rw [h.1.1,AV.beqL_eq a a' h.1.2,AV.beqL_eq b b' h.2]
   |_=>simp [AV.beq] at h
 | .nilf,y,h=>by cases y<;>simp [AV.beq] at h;rfl
 | .iface t v,y,h=>by
   cases y with
   |iface t' v'=>simp only [AV.beq,Bool.and_eq_true,decide_eq_true_eq] at h;rw [h.1,AV.beq_eq v v' h.2]
   |_=>simp [AV.beq] at h
 | .nili,y,h=>by cases y<;>simp [AV.beq] at h;rfl
 | .emp,y,h=>by cases y<;>simp [AV.beq] at h;rfl
 | .own a es,y,h=>by
   cases y with
   |own a' es'=>simp only [AV.beq,Bool.and_eq_true,decide_eq_true_eq] at h;rw [h.1,AV.beqL_eq es es' h.2]
   |_=>simp [AV.beq] at h
 | .dead,y,h=>by cases y<;>simp [AV.beq] at h;rfl
theorem AV.beqL_eq:∀(x y:List AV),AV.beqL x y=true→x=y
 |[],[],_=>rfl
 |[],_::_,h=>by simp [AV.beqL] at h
 |_::_,[],h=>by simp [AV.beqL] at h
 |x::r,y::s,h=>by
  simp only [AV.beqL,Bool.and_eq_true] at h
  rw [AV.beq_eq x y h.1,AV.beqL_eq r s h.2]
end
class Chk (p:Prop) where
 b:Bool
 h:b=true→p
instance (priority:=10) chkDec {p:Prop} [Decidable p]:Chk p:=⟨decide p,of_decide_eq_true⟩
instance chkAnd {p q:Prop} [hp:Chk p] [hq:Chk q]:Chk (p∧q):=⟨hp.b&&hq.b,fun h=>by rw [Bool.and_eq_true] at h;exact ⟨hp.h h.1,hq.h h.2⟩⟩
instance chkAV {x y:AV}:Chk (x=y):=⟨AV.beq x y,AV.beq_eq x y⟩
instance chkAVL {x y:List AV}:Chk (x=y):=⟨AV.beqL x y,AV.beqL_eq x y⟩
instance chkNe {l:List AV}:Chk (l≠[]):=⟨match l with|[]=>false|_::_=>true,by cases l<;>simp⟩
instance chkOpt {x:Option AV} {y:AV}:Chk (x=some y):=⟨match x with|some z=>AV.beq z y|none=>false,by
 cases x with
 |none=>intro h;cases h
 |some z=>intro h;rw [AV.beq_eq z y h]⟩
instance chkAll {l:List AV} {p:AV→Prop} [hp:∀x,Chk (p x)]:Chk (∀x,x∈l→p x):=⟨l.all fun x=>(hp x).b,fun h x hx=>(hp x).h (List.all_eq_true.1 h x hx)⟩
instance chkByte {o:Option UInt8} {m:Int}:Chk (∃b:UInt8,o=some b∧m=b.toNat):=⟨match o with|some b=>decide (m=b.toNat)|none=>false,by
 cases o with
 |none=>intro h;cases h
 |some b=>intro h;exact ⟨b,rfl,of_decide_eq_true h⟩⟩
structure Cond where
 p:Prop
 b:Bool
 h:b=true→p
abbrev mkC (p:Prop) [c:Chk p]:Cond:=⟨p,c.b,c.h⟩
abbrev rawC (p:Prop):Cond:=⟨p,false,fun h=>by cases h⟩
instance chkCond {c:Cond}:Chk c.p:=⟨c.b,c.h⟩
inductive Out where
 |normal
 |exit (id:Nat)
 |ret
inductive Rk where
 |keep (j:Nat) (bare:Bool)
 |freeze
inductive Dir where
 |keep
 |is (b:Bool)
 |elt (e:AV)
 |text (s:ByteArray)
 |call (r:AV) (rd:List Nat) (upd:List (Nat×Ob))
 |sum (e:Out) (env:List (Nat×AV)) (hp:List (Nat×Ob))
 |part (e:Out) (env:List (Nat×AV)) (hp:List (Nat×Ob))
 |cut (slots:List Nat) (tb:List (Nat×Rk))
 |tell (m:Nat) (e:Out) (env:List (Nat×AV)) (hp:List (Nat×Ob))
inductive Rd (α:Type) where
 |ret (a:α)
 |need (id:Nat) (k:Ob→Rd α)
 |fail
def Rd.run {α:Type} (h:Nat→Option Ob):Rd α→Option (α×List Nat)
 | .ret a=>some (a,[])
 | .need id k=>match h id with
   |some o=>match (k o).run h with
    |some (a,l)=>some (a,id::l)
    |none=>none
   |none=>none
 | .fail=>none
theorem Rd.run_local {α:Type} {h h':Nat→Option Ob}:∀{r:Rd α} {a:α} {l:List Nat},r.run h=some (a,l)→(∀id,id∈l→h' id=h id)→r.run h'=some (a,l)
 | .ret _,_,_,e,_=>e
 | .need id k,a,l,e,hl=>by
   simp only [Rd.run] at e⊢
   cases ho:h id with
   |none=>rw [ho] at e;cases e
   |some o=>
    rw [ho] at e
    cases hk:(k o).run h with
    |none=>simp only [hk] at e;cases e
    |some x=>
     obtain ⟨b,m⟩:=x
     simp only [hk] at e
     injection e with e
     injection e with e1 e2
     subst e1;subst e2
     rw [hl id (by simp),ho]
     have:=Rd.run_local hk (h':=h') (fun i hi=>hl i (by simp [hi]))
     simp only [this]
 | .fail,_,_,e,_=>by cases e
structure Res where
 v:AV
 upd:List (Nat×Ob):=[]
 new:List Nat:=[]
 cs:List Cond:=[]
 sc:List Dir
def val (v:AV) (sc:List Dir):Rd Res:= .ret {v:=v,sc:=sc}
def valIf (v:AV) (c:Prop) [Chk c] (sc:List Dir):Rd Res:= .ret {v:=v,cs:=[mkC c],sc:=sc}
def truth (b:Bool):List Dir→Rd Res
 | .is d::sc=>valIf (.bool d) (b=d) sc
 | .keep::sc=>val (.bool b) sc
 |_=> .fail
def const1:Value→AV
 | .int k n=> .int k n
 | .bool b=> .bool b
 | .string s=> .str s
 | .pointer none=> .nilp
 | .slice none 0 0=> .nils
 | .map none=> .nilmap
 | .nilFunc=> .nilf
 | .nilIface=> .nili
 |_=> .dead
def constA:Value→AV
 | .agg cs=> .agg (cs.toList.map const1)
 |v=>const1 v
def evalA (env:List (Nat×AV)):Operand→AV
 | .tmp t=>lookD env t
 | .const v=>constA v
 | .func f=> .clo f [] []
 | .global _=> .dead
def sizeA (P:Program) (t:TypeId):Option Nat:=(P.info? t).map (·.size)
def aggA (P:Program) (t:TypeId):Option Bool:=
 match P.underlying t with
 |some (.struct _)=>some true
 |some (.array _ _)=>some true
 |some _=>some false
 |none=>none
def unNil:AV→AV
 | .nils=> .seq [] true
 | .emp=> .seq [] false
 |x=>x
def pickA (b:Bool):AV→AV→AV
 | .bool x,.bool y=> .bool (bif b then x else y)
 |x,y=>bif b then x else y
def ownV:AV→Bool
 | .own _ _=>true
 |_=>false
def hasOwn (l:List AV):Bool:=l.any ownV
theorem hasOwn_at {l:List AV} (h:hasOwn l=false) {j sz:Nat} {es:List AV}:l[j]? ≠some (.own sz es):=by
 intro hj
 have:hasOwn l=true:=List.any_eq_true.2 ⟨_,List.mem_of_getElem? hj,rfl⟩
 rw [h] at this;cases this
def newVar (d:Nat) (x:AV) (sc:List Dir):Rd Res:=if hasOwn x.cells=true then .fail else .ret {v:= .elt d 0 0,upd:=[(d,.var x.cells)],new:=[d],sc:=sc}
def isDead:AV→Bool
 | .dead=>true
 |_=>false
def readA (P:Program) (t:TypeId) (cs:List AV):Option AV:=
 match aggA P t,sizeA P t with
 |some true,some n=>if n≤cs.length then some (.agg (cs.take n)) else none
 |some false,some _=>cs.head?
 |_,_=>none
def loadA (P:Program) (t:TypeId):AV→List Dir→Rd Res
 | .tptr cs,sc=>match readA P t cs with
   |some v=>val v sc
   |none=> .fail
 | .elt id k off,sc=> .need id fun
   | .var cs=>if k=0 then (match readA P t (cs.drop off) with
     |some v=>val v sc
     |none=> .fail) else .fail
   | .row _ es=>match sc with
     | .elt e::sc=>(match readA P t (e.cells.drop off) with
       |some v=>valIf v (es[k]? =some e) sc
       |none=> .fail)
     |_=> .fail
   |_=> .fail
 |_,_=> .fail
def solid:AV→Bool
 | .agg _=>false
 | .tup _=>false
 | .own _ _=>false
 | .dead=>false
 |_=>true
def okE (n:Nat) (e:AV):Prop:=e.cells.length=n∧∀c,c∈e.cells→solid c=true
instance chkOkE {n:Nat} {e:AV}:Chk (okE n e):=inferInstanceAs (Chk (e.cells.length=n∧∀c,c∈e.cells→solid c=true))
def overA (cs:List AV) (off:Nat) (xs:List AV):List AV:=cs.take off++xs++cs.drop (off+xs.length)
def storeA (P:Program) (t:TypeId) (p x:AV) (sc:List Dir):Rd Res:=
 if x.cells.all solid=false then .fail else
 if sizeA P t≠some x.cells.length then .fail else
 match p with
 | .elt id k off=> .need id fun
   | .var cs=>if k=0∧off+x.cells.length≤cs.length then .ret {v:= .dead,upd:=[(id,.var (overA cs off x.cells))],sc:=sc} else .fail
   | .row sz es=>
     if off=0∧x.cells.length=sz then .ret {v:= .dead,upd:=[(id,.row sz (es.set k x))],cs:=[mkC (k<es.length)],sc:=sc}
     else match sc with
      | .elt e::sc=>if off+x.cells.length≤e.cells.length then .ret {v:= .dead,upd:=[(id,.row sz (es.set k (.agg (overA e.cells off x.cells))))],cs:=[mkC (es[k]? =some e)],sc:=sc} else .fail
      |_=> .fail
   |_=> .fail
 |_=> .fail
def fillA (place:Nat→Option (Nat×Nat)) (cells:List AV):List (Nat×AV)→Option (List AV)
 |[]=>some cells
 |(i,v)::rest=>match place i with
  |none=>none
  |some (off,size)=>if isDead v∨v.cells.length≠size∨off+v.cells.length>cells.length then none else fillA place (overA cells off v.cells) rest
def zeroA (P:Program) (t:TypeId):Option AV:=((P.info? t).bind (·.zero)).map constA
def buildA (P:Program) (t:TypeId) (parts:List (Nat×AV)) (sc:List Dir):Rd Res:=
 match P.underlying t,zeroA P t with
 |some (.struct fields),some z=>
  (match fields.toList.mapM (fun f=>(P.info? f.type).map fun i=>(f.offset,i.size)) with
  |some places=>(match fillA (places.toArray[·]?) z.cells parts with
   |some cs=>if isDead z then .fail else val (.agg cs) sc
   |none=> .fail)
  |none=> .fail)
 |_,_=> .fail
def rowOf (P:Program) (d:Nat) (t:TypeId) (n:Nat) (parts:List (Nat×AV)) (sc:List Dir):Rd Res:=
 match P.underlying t with
 |some (.slice e)=>match sizeA P e,zeroA P e with
  |some sz,some z=>
   if n=0 then (if parts.isEmpty then val (.seq [] true) sc else .fail) else
   if parts.map (·.1)=List.range n∧parts.all (fun x=> !isDead x.2&&x.2.cells.length==sz)∧n*sz≤16777216∧0<sz∧z.cells.length=sz then
    .ret {v:= .row d 0 n,upd:=[(d,.row sz (parts.map (·.2)))],new:=[d],sc:=sc}
   else .fail
  |_,_=> .fail
 |_=> .fail
def offsetA (P:Program) (s:TypeId) (f:Nat):Option Nat:=
 match P.underlying s with
 |some (.struct fields)=>match fields[f]? with
  |some x=>match sizeA P x.type with
   |some 0=>none
   |some _=>some x.offset
   |none=>none
  |none=>none
 |_=>none
def fieldAddrA (P:Program) (s:TypeId) (f:Nat) (p:AV) (sc:List Dir):Rd Res:=
 match offsetA P s f with
 |some o=>match p with
  | .elt id k off=>val (.elt id k (off+o)) sc
  | .tptr cs=>val (.tptr (cs.drop o)) sc
  |_=> .fail
 |none=> .fail
def fieldA (P:Program) (s:TypeId) (f:Nat) (x:AV) (sc:List Dir):Rd Res:=
 match P.underlying s,x with
 |some (.struct fields),.agg cs=>match fields[f]? with
  |some g=>match readA P g.type (cs.drop g.offset) with
   |some v=>val v sc
   |none=> .fail
  |none=> .fail
 |_,_=> .fail
def elemA (P:Program) (t:TypeId):Option (TypeId×Nat):=
 match P.underlying t with
 |some (.slice e)=>(sizeA P e).map fun n=>(e,n)
 |_=>none
def indexAddrA (P:Program) (t:TypeId) (x:AV) (n:Int) (sc:List Dir):Rd Res:=
 match elemA P t with
 |some (_,size)=>match x with
  | .seq es _=>(match sc with
    | .elt e::sc=>if e.cells.length=size then valIf (.tptr e.cells) (0≤n∧es[n.toNat]? =some e) sc else .fail
    |_=> .fail)
  | .row id off len=> .need id fun
    | .row sz _=>if sz=size then valIf (.elt id (off+n.toNat) 0) (0≤n∧n<len) sc else .fail
    |_=> .fail
  |_=> .fail
 |none=> .fail
def indexA (P:Program) (t:TypeId) (x:AV) (n:Int) (sc:List Dir):Rd Res:=
 match P.underlying t,x with
 |some .string,.str s=>(match sc with
  | .elt (.int .u8 m)::sc=>valIf (.int .u8 m) (0≤n∧∃b:UInt8,s.data.toList[n.toNat]? =some b∧m=b.toNat) sc
  |_=> .fail)
 |_,_=> .fail
def arithA (k:IntKind) (n:Int) (sc:List Dir):Rd Res:=valIf (.int k n) (k.wrap n=n) sc
def eqFs (P:Program) (f:TypeId→List AV→List AV→Option (Bool×List AV×List AV)):List Field→Nat→List AV→List AV→Option (Bool×List AV×List AV)
 |[],_,xs,ys=>some (true,xs,ys)
 |g::gs,n,xs,ys=>
  if g.offset=n∧g.name≠ "_" then
   match f g.type xs ys,sizeA P g.type,aggA P g.type with
   |some (c,xs',ys'),some m,some b=>
    if xs.length=m+xs'.length∧ys.length=m+ys'.length∧(b=false→m=1) then
     match eqFs P f gs (n+m) xs' ys' with
     |some (r,xs'',ys'')=>some (c&&r,xs'',ys'')
     |none=>none
    else none
   |_,_,_=>none
  else none
def eqTy (P:Program):Nat→TypeId→List AV→List AV→Option (Bool×List AV×List AV)
 |0,_,_,_=>none
 |d+1,t,xs,ys=>match P.underlying t,xs,ys with
  |some (.int _),.int k p::xs,.int k' q::ys=>if k=k' then some (decide (p=q),xs,ys) else none
  |some .bool,.bool p::xs,.bool q::ys=>some (decide (p=q),xs,ys)
  |some .string,.str p::xs,.str q::ys=>some (decide (p=q),xs,ys)
  |some (.struct fields),xs,ys=>if P.stoodInHeld t=true then none else eqFs P (eqTy P d) fields.toList 0 xs ys
  |_,_,_=>none
def cmpA (op:BinOp) (a b:Int):Option Bool:=
 match op with
 | .eql=>some (decide (a=b))
 | .neq=>some (!decide (a=b))
 | .lss=>some (decide (a<b))
 | .leq=>some (decide (a≤b))
 | .gtr=>some (decide (b<a))
 | .geq=>some (decide (b≤a))
 |_=>none
def shlI (a b:Int):Int:=a*2^b.toNat
def binOpA (P:Program) (op:BinOp) (t:TypeId) (x y:AV) (sc:List Dir):Rd Res:=
 match x,y with
 | .int k a,.int k' b=>
   if k=k' then
    match op with
    | .add=>arithA k (a+b) sc
    | .sub=>arithA k (a-b) sc
    | .mul=>arithA k (a*b) sc
    | .shl=>valIf (.int k (shlI a b)) (0≤b∧b.toNat≤k.bits∧k.wrap (shlI a b)=shlI a b) sc
    |_=>match cmpA op a b with
     |some c=>truth c sc
     |none=> .fail
   else .fail
 | .str a,.str b=>match op with
   | .add=>valIf (.str (a++b)) (a.size+b.size≤9223372036854775807) sc
   | .eql=>truth (decide (a=b)) sc
   | .neq=>truth (!decide (a=b)) sc
   | .lss=>truth (Op.bytesLess a.toList b.toList) sc
   |_=> .fail
 | .bool a,.bool b=>if P.underlying t matches some .bool then (match op with
   | .eql=>truth (decide (a=b)) sc
   | .neq=>truth (!decide (a=b)) sc
   |_=> .fail) else .fail
 |_,_=> .fail
def nilQ:TypeDesc→AV→AV→Option Bool
 | .slice _,.nils,.nils=>some true
 | .slice _,.row _ _ _,.nils=>some false
 | .slice _,.seq (_::_) _,.nils=>some false
 | .slice _,.emp,.nils=>some false
 | .map _ _,.nilmap,.nilmap=>some true
 | .map _ _,.map _,.nilmap=>some false
 | .map _ _,.tmap _ _,.nilmap=>some false
 | .pointer _,.nilp,.nilp=>some true
 | .pointer _,.elt _ _ _,.nilp=>some false
 | .pointer _,.tptr _,.nilp=>some false
 | .func _ _ _,.nilf,.nilf=>some true
 | .func _ _ _,.clo _ _ _,.nilf=>some false
 | .interface _,.iface _ _,.nili=>some false
 |_,_,_=>none
def isNilV:AV→Bool
 | .nils=>true
 | .nilmap=>true
 | .nilp=>true
 | .nilf=>true
 | .nili=>true
 |_=>false
def nilA (P:Program) (op:BinOp) (t:TypeId) (x y:AV) (sc:List Dir):Rd Res:=
 match P.underlying t with
 |some d=>match nilQ d x y,op with
  |some b,.eql=>truth b sc
  |some b,.neq=>truth (!b) sc
  |_,_=> .fail
 |none=> .fail
def eqAggA (P:Program) (op:BinOp) (t:TypeId) (x y:AV) (sc:List Dir):Rd Res:=
 match x,y with
 | .agg xs,.agg ys=>
   if P.eqGuardType P.depth t=false∧aggA P t=some true then
    match eqTy P 20 t xs ys,op with
    |some (b,[],[]),.eql=>truth b sc
    |some (b,[],[]),.neq=>truth (!b) sc
    |_,_=> .fail
   else .fail
 |_,_=> .fail
def u8A (P:Program) (e:TypeId):Bool:=
 match P.underlying e with
 |some (.int .u8)=>true
 |_=>false
def bytesA (id off len:Nat):List Dir→Rd Res
 | .text s::sc=> .need id fun
   | .row sz es=>if sz=1 then valIf (.str s) (off=0∧len=s.size∧es.take len=s.data.toList.map fun b=> .int .u8 b.toNat) sc else .fail
   |_=> .fail
 |_=> .fail
def convertA (P:Program) (src dst:TypeId) (x:AV) (sc:List Dir):Rd Res:=
 match P.underlying src,P.underlying dst,x with
 |some (.int _),some (.int k),.int _ n=>arithA k n sc
 |some .string,some .string,.str s=>val (.str s) sc
 |some (.slice e),some .string,.row id off len=>
  if u8A P e=true then bytesA id off len sc else .fail
 |some .string,some (.slice e),.str s=>
  if u8A P e=true then valIf (.seq (s.data.toList.map fun b=> .int .u8 b.toNat) false) (s.size≤maxLen) sc else .fail
 |_,_,_=> .fail
def makeSliceA (P:Program) (d:Nat) (t:TypeId) (n c:Int) (sc:List Dir):Rd Res:=
 match P.underlying t with
 |some (.slice e)=>match P.info? e,zeroA P e with
  |some i,some z=>if z.cells.length=i.size∧0<i.size∧¬isDead z then
   .ret {v:= .row d 0 n.toNat,upd:=[(d,.row i.size (List.replicate n.toNat z))],new:=[d],cs:=[mkC (n=c∧0≤n∧n*i.bytes≤140737488355328∧n≤9223372036854775807)],sc:=sc} else .fail
  |_,_=> .fail
 |_=> .fail
def sliceA (P:Program) (t:TypeId) (x:AV) (lo hi mx:Option AV) (sc:List Dir):Rd Res:=
 match elemA P t with
 |some (_,size)=>(match x,lo,hi,mx with
  | .row id off len,none,some (.int _ h),none=> .need id fun
    | .row _ es=>valIf (.row id off h.toNat) (0≤h∧off+h.toNat≤es.length) sc
    |_=> .fail
  | .row id off len,some (.int _ l),none,none=> .need id fun
    | .row sz _=>if sz=size then valIf (.row id (off+l.toNat) (len-l.toNat)) (0≤l∧l≤len) sc else .fail
    |_=> .fail
  | .seq es _,some (.int _ l),none,none=>valIf (.seq (es.drop l.toNat) false) (0≤l∧l≤es.length∧∀e,e∈es→e.cells.length=size) sc
  | .seq es _,none,some (.int _ h),none=>valIf (.seq (es.take h.toNat) false) (0≤h∧h≤es.length) sc
  | .seq _ _,none,some (.int _ 0),some (.int _ 0)=>val (.seq [] true) sc
  | .row _ _ _,none,some (.int _ 0),some (.int _ 0)=>val (.seq [] true) sc
  | .row id off _,some (.int _ l),some (.int _ h),none=> .need id fun
    | .row sz es=>if sz=size then valIf (.row id (off+l.toNat) (h.toNat-l.toNat)) (0≤l∧l≤h∧off+h.toNat≤es.length) sc else .fail
    |_=> .fail
  | .row id off _,some (.int _ l),some (.int _ h),some (.int _ m)=> .need id fun
    | .row _ es=>valIf .dead (0≤l∧l≤h∧h≤m∧off+m.toNat≤es.length) sc
    |_=> .fail
  | .seq es _,some (.int _ l),some (.int _ h),none=>valIf (.seq ((es.take h.toNat).drop l.toNat) false) (0≤l∧l≤h∧h≤es.length∧∀e,e∈es→e.cells.length=size) sc
  |_,_,_,_=> .fail)
 |none=> .fail
def cutA (P:Program) (t:TypeId) (s:ByteArray) (lo hi:Option AV) (sc:List Dir):Rd Res:=
 match P.underlying t with
 |some .string=>(match lo,hi with
  |none,some (.int _ h)=>valIf (.str (s.extract 0 h.toNat)) (0≤h∧h≤s.size) sc
  |some (.int _ l),none=>valIf (.str (s.extract l.toNat s.size)) (0≤l∧l≤s.size) sc
  |some (.int _ l),some (.int _ h)=>valIf (.str (s.extract l.toNat h.toNat)) (0≤l∧l≤h∧h≤s.size) sc
  |_,_=> .fail)
 |_=> .fail
def lenA (P:Program) (t:TypeId) (x:AV) (sc:List Dir):Rd Res:=
 match P.underlying t,x with
 |some (.slice _),.seq es _=>val (.int .i64 es.length) sc
 |some (.slice _),.row _ _ n=>val (.int .i64 n) sc
 |some (.slice _),.own _ es=>val (.int .i64 es.length) sc
 |some .string,.str s=>val (.int .i64 s.size) sc
 |_,_=> .fail
def newsA:AV→(List AV→Cond→Rd Res)→Rd Res
 | .seq es _,k=>k es (mkC True)
 | .row id off len,k=> .need id fun
   | .row _ es=>k ((es.drop off).take len) (mkC (off+len≤es.length))
   |_=> .fail
 |_,_=> .fail
def appendA (P:Program) (d:Nat) (t:TypeId) (x y:AV) (sc:List Dir):Rd Res:=
 match P.underlying t with
 |some (.slice e)=>match P.info? e,zeroA P e with
  |some i,some z=>
   if z.cells.length=i.size∧0<i.size∧¬isDead z then
    match x,sc with
    | .seq es c,.is false::sc=>newsA y fun ys q=>valIf (.seq es c) (q.p∧ys=[]) sc
    | .row id off len,.is false::sc=>newsA y fun ys q=>valIf (.row id off len) (q.p∧ys=[]) sc
    | .seq es true,.is true::sc=>newsA y fun ys q=>
      .ret {v:= .row d 0 (es.length+ys.length),upd:=[(d,.row i.size (es++ys))],new:=[d],cs:=[mkC (q.p∧ys≠[]∧(∀e,e∈ys→okE i.size e)∧(∀e,e∈es→okE i.size e)∧((es.length+ys.length:Nat):Int)*i.bytes≤140737488355328∧es.length+ys.length≤maxLen)],sc:=sc}
    | .row id off len,.text _::sc=> .need id fun
      | .row sz es=>newsA y fun ys q=>
        if sz=i.size then
         .ret {v:= .row id off (len+ys.length),upd:=[(id,.row sz (es.take len++ys++es.drop (len+ys.length)))],cs:=[mkC (q.p∧off=0∧len+ys.length≤es.length∧(∀e,e∈ys→okE i.size e)∧ys≠[])],sc:=sc}
        else .fail
      |_=> .fail
    | .row id off len,.is true::sc=> .need id fun
      | .row sz es=>newsA y fun ys q=>
        if sz=i.size∧(id<mid∨mid≤d) then
         .ret {v:= .row d 0 (len+ys.length),upd:=[(id,.dead),(d,.row sz (es++ys))],new:=[d],cs:=[mkC (q.p∧off=0∧len=es.length∧(∀e,e∈ys→okE i.size e)∧(∀e,e∈es→okE i.size e)∧((len+ys.length:Nat):Int)*i.bytes≤140737488355328∧len+ys.length≤maxLen)],sc:=sc}
        else .fail
      |_=> .fail
    |_,_=> .fail
   else .fail
  |_,_=> .fail
 |_=> .fail
def zips:List Nat→(List (Nat×Ob)→Rd Res)→Rd Res
 |[],k=>k []
 |id::r,k=> .need id fun o=>zips r fun l=>k ((id,o)::l)
def Spec (P:Program) (f:FuncId) (args:List AV) (pre:List (Nat×Ob)) (r:AV) (upd:List (Nat×Ob)):Prop:=
 ∀(F:Fr) (S:Blk) (β:Beta) (hp:List (Nat×Ob)) (w:World) (vs:List Value),Mem F S β hp w→vs.length=args.length→(∀(i:Nat) v x,vs[i]? =some v→args[i]? =some x→V S β w v x)→
  (∀id o,(id,o)∈pre→look hp id=some o)→(∀id o,(id,o)∈upd→(∀o',(id,o')∉pre)→look hp id=none)→
  Calls P f vs.toArray w fun e w'=>∃v S' β',e= .returned v∧Ext S S' β β' w w'∧Mem F S' β' (upd.foldl (fun h x=>putL h x.1 x.2) hp) w'∧V S' β' w' v r
def callA (P:Program) (f:AV) (args:List AV) (sc:List Dir):Rd Res:=
 match f,sc with
 | .clo g first cap,.call r rd upd::sc=>
   match P.funcs[g]? with
   |some fn=>if fn.body.isSome∧fn.name≠ "runtime.NumGoroutine" then
    zips rd fun pre=> .ret {v:=r,upd:=upd,new:=(upd.map (·.1)).filter (fun i=> !rd.contains i),cs:=[rawC (Spec P g (first++args++cap) pre r upd)],sc:=sc} else .fail
   |none=> .fail
 |_,_=> .fail
def clearA (P:Program) (t:TypeId) (x:AV) (sc:List Dir):Rd Res:=
 match P.underlying t with
 |some (.slice e)=>match zeroA P e,sizeA P e with
  |some z,some size=>(match x with
   | .seq [] _=>val (.tup []) sc
   | .row id off len=> .need id fun
     | .row sz es=>if sz=size∧z.cells.length=size∧0<size∧z.cells.all solid=true then .ret {v:= .tup [],upd:=[(id,.row sz (es.take off++List.replicate len z++es.drop (off+len)))],cs:=[mkC (off+len≤es.length)],sc:=sc} else .fail
     |_=> .fail
   |_=> .fail)
  |_,_=> .fail
 |_=> .fail
def builtinA (P:Program) (d:Nat) (b:Builtin) (ts:Array TypeId) (vs:List AV) (sc:List Dir):Rd Res:=
 match b,ts.toList,vs with
 | .len,[t],[x]=>lenA P t (unNil x) sc
 | .append,[t,u],[x,y]=>if t=u then (match sc with
   | .elt (.int .i64 m)::sc=>appendA P m.toNat t (unNil x) (unNil y) (.is true::sc)
   |sc=>appendA P d t (unNil x) (unNil y) sc) else .fail
 | .clear,[t],[x]=>clearA P t (unNil x) sc
 | .max,[_,_],[.int k p,.int _ q]=>val (.int k (if q>p then q else p)) sc
 | .min,[_,_],[.int k p,.int _ q]=>val (.int k (if q<p then q else p)) sc
 |_,_,_=> .fail
def concA (P:Program) (t:TypeId):Bool:=
 match P.underlying t with
 |some (.interface _)=>false
 |some _=>true
 |none=>false
def isAggV:AV→Bool
 | .agg _=>true
 |_=>false
def cutOr (P:Program) (t:TypeId) (x:AV) (lo hi mx:Option AV) (sc:List Dir):Rd Res:=
 match x with
 | .str s=>cutA P t s lo hi sc
 |x=>sliceA P t x lo hi mx sc
def sameA (s:Bool):AV→AV→Option Bool
 | .int k a,.int k' b=>if s=false∧k=k' then some (decide (a=b)) else none
 | .str a,.str b=>if s=true then some (decide (a=b)) else none
 |_,_=>none
def findA (s:Bool) (k:AV):List AV→Nat→Option (Option Nat)
 |[],_=>some none
 |x::r,i=>match sameA s k x with
  |some true=>some (some i)
  |some false=>findA s k r (i+1)
  |none=>none
def keyTy (P:Program) (t:TypeId):Option (TypeId×TypeId×Bool):=
 match P.underlying t with
 |some (.map k e)=>match P.underlying k with
  |some .string=>some (k,e,true)
  |some (.int _)=>some (k,e,false)
  |_=>none
 |_=>none
def outA (ok:Bool) (v:AV) (b:Bool):AV:=bif ok then .tup [v,.bool b] else v
def foundA (P:Program) (e:TypeId) (ok:Bool) (vs:List AV) (r:Option (Option Nat)):List Dir→Rd Res
 | .elt v::sc=> .ret {v:=outA ok v true,cs:=[rawC (∃j,r=some (some j)∧vs[j]? =some v)],sc:=sc}
 | .is false::sc=>match zeroA P e with
   |some z=> .ret {v:=outA ok z false,cs:=[rawC (r=some none)],sc:=sc}
   |none=> .fail
 |sc=>match r with
  |some (some i)=>match vs[i]? with
   |some v=>val (outA ok v true) sc
   |none=> .fail
  |some none=>match zeroA P e with
   |some z=>val (outA ok z false) sc
   |none=> .fail
  |none=> .fail
def whereA (r:Option (Option Nat)):List Dir→Option (Option Nat×Cond×List Dir)
 | .elt (.int .i64 n)::sc=>some (some n.toNat,rawC (r=some (some n.toNat)),sc)
 | .is false::sc=>some (none,rawC (r=some none),sc)
 |sc=>match r with
  |some q=>some (q,mkC True,sc)
  |none=>none
theorem whereA_sound {r:Option (Option Nat)} {sc sc':List Dir} {q:Option Nat} {c:Cond} (h:whereA r sc=some (q,c,sc')) (hc:c.p):r=some q:=by
 unfold whereA at h
 split at h
 ·injection h with h;simp only [Prod.mk.injEq] at h;obtain ⟨rfl,rfl,rfl⟩:=h;exact hc
 ·injection h with h;simp only [Prod.mk.injEq] at h;obtain ⟨rfl,rfl,rfl⟩:=h;exact hc
 ·split at h
  ·injection h with h;simp only [Prod.mk.injEq] at h;obtain ⟨rfl,rfl,rfl⟩:=h;rfl
  ·cases h
def lookupA (P:Program) (t:TypeId) (m k:AV) (ok:Bool) (sc:List Dir):Rd Res:=
 match keyTy P t with
 |some (_,e,s)=>match m with
  | .nilmap=>foundA P e ok [] (some none) sc
  | .tmap ks vs=>foundA P e ok vs (findA s k ks 0) sc
  | .map id=> .need id fun
    | .map ks vs=>foundA P e ok vs (findA s k ks 0) sc
    |_=> .fail
  |_=> .fail
 |none=> .fail
def updateA (P:Program) (t:TypeId) (m k v:AV) (sc:List Dir):Rd Res:=
 match keyTy P t with
 |some (_,_,s)=>if ownV v=true then .fail else match m with
  | .map id=> .need id fun
    | .map ks vs=>(match whereA (findA s k ks 0) sc with
      |some (some i,c,sc)=> .ret {v:= .dead,upd:=[(id,.map (ks.set i k) (vs.set i v))],cs:=[c],sc:=sc}
      |some (none,c,sc)=> .ret {v:= .dead,upd:=[(id,.map (ks++[k]) (vs++[v]))],cs:=[c],sc:=sc}
      |none=> .fail)
    |_=> .fail
  |_=> .fail
 |none=> .fail
def deleteA (P:Program) (t:TypeId) (m k:AV) (sc:List Dir):Rd Res:=
 match keyTy P t with
 |some (_,_,s)=>if txt k=true then (match m with
  | .map id=> .need id fun
    | .map ks vs=>(match whereA (findA s k ks 0) sc with
      |some (some i,c,sc)=> .ret {v:= .tup [],upd:=[(id,.map (ks.eraseIdx i) (vs.eraseIdx i))],cs:=[c,mkC (∀v,v∈vs→ownV v=false)],sc:=sc}
      |some (none,c,sc)=> .ret {v:= .tup [],upd:=[(id,.map ks vs)],cs:=[c],sc:=sc}
      |none=> .fail)
    |_=> .fail
  |_=> .fail) else .fail
 |none=> .fail
def builtinB (P:Program) (d:Nat) (b:Builtin) (ts:Array TypeId) (vs:List AV) (sc:List Dir):Rd Res:=
 match b,ts.toList,vs with
 | .delete,[t,_],[m,k]=>deleteA P t m k sc
 |b,_,vs=>builtinA P d b ts vs sc
theorem builtinB_or (P:Program) (d:Nat) (b:Builtin) (ts:Array TypeId) (vs:List AV) (sc:List Dir):(∃t u m k,b= .delete∧ts.toList=[t,u]∧vs=[m,k]∧builtinB P d b ts vs sc=deleteA P t m k sc)∨builtinB P d b ts vs sc=builtinA P d b ts vs sc:=by
 unfold builtinB
 split
 ·rename_i t u m k h
  exact .inl ⟨t,u,m,k,rfl,h,rfl,rfl⟩
 ·exact .inr rfl
def plainA (P:Program) (t:TypeId):Bool:=
 match P.underlying t with
 |some .string=>true
 |some (.int _)=>true
 |some .bool=>true
 |_=>false
def keyStruct (P:Program) (t:TypeId):Option (TypeId×TypeId×List Field):=
 match P.underlying t with
 |some (.map k e)=>match P.underlying k with
  |some (.struct fields)=>if fields.toList.all (fun f=>plainA P f.type&&decide (sizeA P f.type=some 1))=true then some (k,e,fields.toList) else none
  |_=>none
 |_=>none
def findS (P:Program) (t:TypeId) (xs:List AV):List AV→Nat→Option (Option Nat)
 |[],_=>some none
 | .agg ys::r,i=>match eqTy P 20 t xs ys with
   |some (true,[],[])=>some (some i)
   |some (false,[],[])=>findS P t xs r (i+1)
   |_=>none
 |_::_,_=>none
def fieldsIn (l:List Field) (n:Nat):Bool:=l.all fun f=>decide (f.offset<n)
def lookupS (P:Program) (t:TypeId) (m k:AV) (ok:Bool) (sc:List Dir):Rd Res:=
 match keyStruct P t,k with
 |some (kt,e,l),.agg xs=>if fieldsIn l xs.length=true then (match m with
  | .nilmap=>foundA P e ok [] (some none) sc
  | .map id=> .need id fun
    | .map ks vs=>foundA P e ok vs (findS P kt xs ks 0) sc
    |_=> .fail
  |_=> .fail) else .fail
 |_,_=> .fail
def updateS (P:Program) (t:TypeId) (m k v:AV) (sc:List Dir):Rd Res:=
 match keyStruct P t,k with
 |some (kt,_,l),.agg xs=>if fieldsIn l xs.length=true then (if ownV v=true then .fail else match m with
  | .map id=> .need id fun
    | .map ks vs=>(match whereA (findS P kt xs ks 0) sc with
      |some (none,c,sc)=> .ret {v:= .dead,upd:=[(id,.map (ks++[k]) (vs++[v]))],cs:=[c],sc:=sc}
      |_=> .fail)
    |_=> .fail
  |_=> .fail) else .fail
 |_,_=> .fail
def assertA (P:Program) (x:AV) (t:TypeId) (ok:Bool) (sc:List Dir):Rd Res:=
 if concA P t=true then
  match x with
  | .iface d v=>if d=t then val (outA ok v true) sc else (match ok,zeroA P t with
    |true,some z=>val (outA true z false) sc
    |_,_=> .fail)
  | .nili=>(match ok,zeroA P t with
    |true,some z=>val (outA true z false) sc
    |_,_=> .fail)
  |_=> .fail
 else .fail
def evalOp (P:Program) (d:Nat) (op:Op) (vs:List AV) (sc:List Dir):Rd Res:=
 match op,vs with
 | .move _,[x]=>val x sc
 | .assign _,[x]=>val x sc
 | .pick _ _ _,[.bool c,x,y]=>val (pickA c x y) sc
 | .alloc t,[]=>match zeroA P t with
   |some z=>if isDead z then .fail else newVar d z sc
   |none=> .fail
 | .box t _,[x]=>if isDead x then .fail else newVar d x sc
 | .build t ps,xs=>buildA P t ((ps.toList.map (·.1)).zip xs) sc
 | .buildSlice t n ps,xs=>rowOf P d t n ((ps.toList.map (·.1)).zip xs) sc
 | .load t _,[p]=>loadA P t p sc
 | .store t _ _,[p,x]=>storeA P t p x sc
 | .nilCheck _,[.elt i k o]=>val (.elt i k o) sc
 | .nilCheck _,[.tptr cs]=>val (.tptr cs) sc
 | .binOp op t _ _ _,[x,y]=>if isNilV y=true then nilA P op t x y sc else if isAggV x=true then eqAggA P op t x y sc else binOpA P op t x y sc
 | .unOp .not _ _,[.bool b]=>val (.bool (!b)) sc
 | .convert s t _,[x]=>convertA P s t x sc
 | .makeInterface t _,[x]=>if concA P t=true then val (.iface t x) sc else .fail
 | .makeFunc (.func f) first cap,xs=>if xs.length=first.size+cap.size then val (.clo f (xs.take first.size) (xs.drop first.size)) sc else .fail
 | .makeSlice t _ _,[.int .i64 n,.int .i64 c]=>makeSliceA P d t n c sc
 | .slice t _ (some _) none none,[x,l]=>cutOr P t (unNil x) (some l) none none sc
 | .slice t _ none (some _) none,[x,h]=>cutOr P t (unNil x) none (some h) none sc
 | .slice t _ none (some _) (some _),[x,h,m]=>sliceA P t (unNil x) none (some h) (some m) sc
 | .slice t _ (some _) (some _) none,[x,l,h]=>cutOr P t (unNil x) (some l) (some h) none sc
 | .slice t _ (some _) (some _) (some _),[x,l,h,m]=>sliceA P t (unNil x) (some l) (some h) (some m) sc
 | .fieldAddr t _ f,[p]=>fieldAddrA P t f p sc
 | .field t _ f,[x]=>fieldA P t f x sc
 | .indexAddr t _ _,[x,.int _ n]=>indexAddrA P t (unNil x) n sc
 | .index t _ _,[x,.int _ n]=>indexA P t x n sc
 | .extract _ i,[.tup xs]=>(match xs[i]? with
   |some x=>val x sc
   |none=> .fail)
 | .typeAssert _ _ t ok,[x]=>assertA P x t ok sc
 | .makeMap _ none,[]=> .ret {v:= .map d,upd:=[(d,.map [] [])],new:=[d],sc:=sc}
 | .lookup t _ _ ok,[m,k]=>if isAggV k=true then lookupS P t m k ok sc else lookupA P t m k ok sc
 | .mapUpdate t _ _ _,[m,k,v]=>if isAggV k=true then updateS P t m k v sc else updateA P t m k v sc
 | .call ⟨.value _,_,_⟩,f::args=>callA P f args sc
 | .call ⟨.builtin b,_,ts⟩,xs=>builtinB P d b ts xs sc
 |_,_=> .fail
section
def putAll (hp:List (Nat×Ob)) (upd:List (Nat×Ob)):List (Nat×Ob):=upd.foldl (fun h x=>putL h x.1 x.2) hp
def Beta.add (β:Beta) (d:Nat) (bi:Bl):Beta:=fun i=>if i=d then some bi else β i
theorem Beta.add_same (β:Beta) (d:Nat) (bi:Bl):β.add d bi d=some bi:=by simp [Beta.add]
theorem Beta.add_ext {β:Beta} {d:Nat} {bi:Bl} (h:β d=none):∀i b,β i=some b→β.add d bi i=some b:=by
 intro i b hb
 unfold Beta.add
 by_cases e:i=d
 ·subst e;rw [h] at hb;cases hb
 ·rw [if_neg e];exact hb
theorem Beta.add_cases {β:Beta} {d:Nat} {bi:Bl} {i:Nat} {b:Bl} (h:β.add d bi i=some b):(i=d∧b=bi)∨(i≠d∧β i=some b):=by
 unfold Beta.add at h
 by_cases e:i=d
 ·rw [if_pos e] at h;injection h with h;exact .inl ⟨e,h.symm⟩
 ·rw [if_neg e] at h;exact .inr ⟨e,h⟩
section
variable {F:Fr} {S:Blk} {β:Beta} {hp:List (Nat×Ob)} {w w':World}
theorem Mem.beta_none (M:Mem F S β hp w) {d:Nat} (h:look hp d=none):β d=none:=by
 cases hb:β d with
 |none=>rfl
 |some bi=>obtain ⟨o,ho⟩:=M.dom d bi hb;rw [h] at ho;cases ho
theorem Mem.heapEq (M:Mem F S β hp w) (hh:w'.heap=w.heap) (h1:w'.os=w.os) (h2:w'.tape=w.tape) (h3:w'.output=w.output):Mem F S β hp w':=by
 have ag:Agr S w w':=fun b _=>by rw [hh]
 refine Mem.mk' ⟨M.tab,h1.trans M.os,h2.trans M.tape,h3.trans M.output,by rw [hh];exact M.size,fun b a c=>by rw [hh];exact M.keep b a c,fun id o h=>(M.obs id o h).mono (fun _ h=>h) (fun _ _ h=>h) ag (fun _ _=>by rw [hh]),M.dom,M.inj,fun i bi h=>by rw [hh];exact M.own i bi h,fun b h=>by rw [hh];exact M.sub b h,M.base,M.new,M.giv⟩ (fun M0=>M.hid.step (fun _ h=>h) ag M0.inj (fun id' o' j sz es h1 h2=> ?_) (fun b B _=>⟨by rw [hh],B.ns,by rw [hh];exact B.lt,B.fr,B.ap⟩))
 obtain ⟨v,⟨o2,bi,q1,q2,q3,q4⟩,_⟩:=M.hid.own id' o' j sz es h1 h2
 exact ⟨id',o',bi,bi,fun h=>h,h1,h2,q2,q2,rfl,slotV_same (by rw [hh]) j⟩
theorem OwnAt.same {id j sz sz':Nat} {es es':List AV} {v v':Value} (h:OwnAt β hp w id j sz es v) (k:OwnAt β hp w id j sz' es' v'):v=v'∧sz=sz'∧es=es':=by
 obtain ⟨o,bi,a1,a2,a3,a4⟩:=h
 obtain ⟨o',bi',c1,c2,c3,c4⟩:=k
 rw [a1] at c1;injection c1 with c1;subst c1
 rw [a2] at c2;injection c2 with c2;subst c2
 rw [a3] at c3;injection c3 with c3;injection c3 with c3 c5
 rw [a4] at c4;injection c4 with c4
 exact ⟨c4,c3,c5⟩
theorem Hid.block {F:Fr} (H:Hid F S β hp w) {id j sz:Nat} {es:List AV} {b n c:Nat} (h:OwnAt β hp w id j sz es (.slice (some ⟨b,0,none⟩) n c)):HidB F S β hp w b:=by
 obtain ⟨o,bi,a1,a2,a3,a4⟩:=h
 obtain ⟨v,hO,hv⟩:=H.own id o j sz es a1 a3
 obtain ⟨e,_⟩:=OwnAt.same hO ⟨o,bi,a1,a2,a3,a4⟩
 subst e
 rcases hv with ⟨_,e⟩|⟨b',cap,e,_,_,B⟩
 ·cases e
 ·injection e with e;injection e with e;injection e with e;subst e;exact B
theorem Mem.beyond (M:Mem F S β hp w) {S':Blk} (hS:∀b,S b→S' b) (hnew:∀b,S' b→S b∨w.heap.size≤b) (hsub:∀b,S' b→b<w'.heap.size) (h1:w'.os=w.os) (h2:w'.tape=w.tape) (h3:w'.output=w.output) (hsz:w.heap.size≤w'.heap.size)
  (hk:∀b,b<w.heap.size→w'.heap[b]? =w.heap[b]?):Ext S S' β β w w'∧Mem F S' β hp w':=by
 have hag:Agr S w w':=fun b hb=>hk b (M.sub b hb)
 have out:∀i bi,β i=some bi→w'.heap[bi.blk]? =w.heap[bi.blk]? :=fun i bi hi=>hk _ (M.own i bi hi).2.1
 have nS:∀b,b<w.heap.size→¬S b→¬S' b:=fun b hb h hs=>(hnew b hs).elim h (fun g=>absurd hb (Nat.not_lt.2 g))
 refine ⟨⟨hS,fun _ _ h=>h,hag⟩,Mem.mk' ⟨M.tab,h1.trans M.os,h2.trans M.tape,h3.trans M.output,Nat.le_trans M.size hsz,fun b a c=>(hk b (Nat.lt_of_lt_of_le a M.size)).trans (M.keep b a c),fun id o h=>(M.obs id o h).mono hS (fun _ _ h=>h) hag (out id),M.dom,M.inj,fun i bi hi=> ?_,hsub,fun b h=>hS b (M.base b h),fun b h=> ?_,M.giv⟩
  (fun M0=>M.hid.step hS hag M0.inj (fun id' o' j sz es g1 g2=> ?_) (fun b B _=>⟨hk b B.lt,nS b B.lt B.ns,Nat.lt_of_lt_of_le B.lt hsz,B.fr,B.ap⟩))⟩
 ·obtain ⟨p1,p2,p3⟩:=M.own i bi hi
  exact ⟨nS _ p2 p1,Nat.lt_of_lt_of_le p2 hsz,p3⟩
 ·rcases hnew b h with h|h
  ·exact M.new b h
  ·exact .inr (Nat.le_trans M.size h)
 ·obtain ⟨v,⟨o2,bi,q1,q2,q3,q4⟩,_⟩:=M.hid.own id' o' j sz es g1 g2
  exact ⟨id',o',bi,bi,fun h=>h,g1,g2,q2,q2,rfl,slotV_same (out id' bi q2) j⟩
theorem Mem.look_eq {hp':List (Nat×Ob)} (h:∀k,look hp k=look hp' k) (M:Mem F S β hp w):Mem F S β hp' w:=by
 refine Mem.mk' ⟨M.tab,M.os,M.tape,M.output,M.size,M.keep,fun id o ho=>M.obs id o (by rw [h];exact ho),fun id bi hb=> ?_,fun i j bi bj hi hj h1 h2=>M.inj i j bi bj hi hj (fun o ho=>h1 o (by rw [←h];exact ho)) (fun o ho=>h2 o (by rw [←h];exact ho)),M.own,M.sub,M.base,M.new,M.giv⟩
  (fun M0=>M.hid.step (fun _ h=>h) (Agr.refl S w) M0.inj (fun id' o' j sz es h1 h2=> ?_) (fun b B _=>⟨rfl,B.ns,B.lt,B.fr,fun i bi hi hl=>B.ap i bi hi (fun o ho=>hl o (by rw [←h];exact ho))⟩))
 ·obtain ⟨o,ho⟩:=M.dom id bi hb
  exact ⟨o,by rw [←h];exact ho⟩
 ·rw [←h] at h1
  obtain ⟨v,⟨o2,bi,q1,q2,q3,q4⟩,_⟩:=M.hid.own id' o' j sz es h1 h2
  exact ⟨id',o',bi,bi,fun h=>h,h1,h2,q2,q2,rfl,rfl⟩
theorem Mem.alloc (M:Mem F S β hp w) {d:Nat} (hd:look hp d=none) (ob:Obj) (o:Ob) (hno:∀j sz es,o.at j≠some (.own sz es)) (sz cap:Nat)
  (ho:HO S (β.add d ⟨w.heap.size,sz,cap⟩) (w.alloc ob) d o):
  Ext S S β (β.add d ⟨w.heap.size,sz,cap⟩) w (w.alloc ob)∧Mem F S (β.add d ⟨w.heap.size,sz,cap⟩) (putL hp d o) (w.alloc ob):=by
 have hb:=M.beta_none hd
 have hagr:Agr S w (w.alloc ob):=fun b hb=>heap_alloc_old w ob (M.sub b hb)
 refine ⟨⟨fun _ h=>h,Beta.add_ext hb,hagr⟩,?_⟩
 refine Mem.mk' ⟨M.tab,M.os,M.tape,M.output,by have:=M.size;simp;omega,fun b h1 h2=> ?_,fun id x hx=> ?_,fun id bi hi=> ?_,fun i j bi bj hi hj h1 h2 h3=> ?_,fun i bi hi=> ?_,fun b hb=> ?_,M.base,M.new,fun i b h1 h2=>Beta.add_ext hb i b (M.giv i b h1 h2)⟩ (fun M0=>M.hid.step (fun _ h=>h) hagr M0.inj (fun id o' j sz es h1 h2=> ?_) (fun b B _=>⟨heap_alloc_old w ob B.lt,B.ns,by simp;have:=B.lt;omega,B.fr,fun i bi hi hl=> ?_⟩))
 ·rw [heap_alloc_old w ob (by have:=M.size;omega)];exact M.keep b h1 h2
 ·rw [look_put] at hx
  by_cases e:d=id
  ·subst e;rw [if_pos rfl] at hx;injection hx with hx;subst hx;exact ho
  ·rw [if_neg e] at hx
   exact (M.obs id x hx).mono (fun _ h=>h) (Beta.add_ext hb) hagr (fun bi hi=>heap_alloc_old w ob (M.own id bi hi).2.1)
 ·rw [look_put]
  by_cases e:d=id
  ·exact ⟨o,by rw [if_pos e]⟩
  ·rw [if_neg e]
   rcases Beta.add_cases hi with ⟨e',_⟩|⟨_,hi⟩
   ·exact absurd e'.symm e
   ·exact M.dom id bi hi
 ·rcases Beta.add_cases hi with ⟨e1,b1⟩|⟨e1,hi⟩<;>rcases Beta.add_cases hj with ⟨e2,b2⟩|⟨e2,hj⟩
  ·rw [e1,e2]
  ·have:=(M.own j bj hj).2.1;rw [b1] at h3;simp only at h3;omega
  ·have:=(M.own i bi hi).2.1;rw [b2] at h3;simp only at h3;omega
  ·refine M.inj i j bi bj hi hj (fun x hx=>h1 x ?_) (fun x hx=>h2 x ?_) h3
   ·rw [look_put,if_neg (Ne.symm e1)];exact hx
   ·rw [look_put,if_neg (Ne.symm e2)];exact hx
 ·rcases Beta.add_cases hi with ⟨_,e⟩|⟨_,hi⟩
  ·subst e
   refine ⟨fun hs=> ?_,by simp,.inr M.size⟩
   have:=M.sub _ hs
   simp only at this
   omega
  ·obtain ⟨h1,h2,h3⟩:=M.own i bi hi
   exact ⟨h1,by simp;omega,h3⟩
 ·have:=M.sub b hb;simp;omega
 ·rw [look_put] at h1
  by_cases e:d=id
  ·subst e;rw [if_pos rfl] at h1;injection h1 with h1;subst h1;exact absurd h2 (hno j sz es)
  ·rw [if_neg e] at h1
   obtain ⟨v,⟨o2,bi,q1,q2,q3,q4⟩,_⟩:=M.hid.own id o' j sz es h1 h2
   exact ⟨id,o',bi,bi,fun h=>h,h1,h2,q2,Beta.add_ext hb _ _ q2,rfl,slotV_same (heap_alloc_old w ob (M.own id bi q2).2.1) j⟩
 ·rcases Beta.add_cases hi with ⟨_,e⟩|⟨e,hi⟩
  ·subst e;have:=B.lt;simp only;omega
  ·exact B.ap i bi hi (fun o' ho'=>hl o' (by rw [look_put,if_neg (Ne.symm e)];exact ho'))
theorem Mem.lay (M:Mem F S β hp w) (ob:Obj):Ext S (fun b=>S b∨b=w.heap.size) β β w (w.alloc ob)∧Mem F (fun b=>S b∨b=w.heap.size) β hp (w.alloc ob):=by
 have hagr:Agr S w (w.alloc ob):=fun b hb=>heap_alloc_old w ob (M.sub b hb)
 refine ⟨⟨fun _ h=> .inl h,fun _ _ h=>h,hagr⟩,?_⟩
 refine Mem.mk' ⟨M.tab,M.os,M.tape,M.output,by have:=M.size;simp;omega,fun b h1 h2=> ?_,fun id x hx=> ?_,M.dom,M.inj,fun i bi hi=> ?_,fun b hb=> ?_,fun b hb=> .inl (M.base b hb),fun b hb=> ?_,M.giv⟩ (fun M0=>M.hid.step (fun _ h=> .inl h) hagr M0.inj (fun id o' j sz es h1 h2=> ?_) (fun b B _=>⟨heap_alloc_old w ob B.lt,?_,by simp;have:=B.lt;omega,B.fr,B.ap⟩))
 ·rw [heap_alloc_old w ob (by have:=M.size;omega)];exact M.keep b h1 h2
 ·exact (M.obs id x hx).mono (fun _ h=> .inl h) (fun _ _ h=>h) hagr (fun bi hi=>heap_alloc_old w ob (M.own id bi hi).2.1)
 ·obtain ⟨h1,h2,h3⟩:=M.own i bi hi
  refine ⟨?_,by simp;omega,h3⟩
  rintro (h|h)
  ·exact h1 h
  ·omega
 ·rcases hb with hb|rfl
  ·have:=M.sub b hb;simp;omega
  ·simp
 ·rcases hb with hb|rfl
  ·exact M.new b hb
  ·exact .inr M.size
 ·obtain ⟨v,⟨o2,bi,q1,q2,q3,q4⟩,_⟩:=M.hid.own id o' j sz es h1 h2
  exact ⟨id,o',bi,bi,fun h=>h,h1,h2,q2,q2,rfl,slotV_same (heap_alloc_old w ob (M.own id bi q2).2.1) j⟩
 ·rintro (h|h)
  ·exact B.ns h
  ·have:=B.lt;omega
theorem Mem.waste (M:Mem F S β hp w) (ob:Obj):Mem F S β hp (w.alloc ob):=by
 have hagr:Agr S w (w.alloc ob):=fun b hb=>heap_alloc_old w ob (M.sub b hb)
 refine Mem.mk' ⟨M.tab,M.os,M.tape,M.output,by have:=M.size;simp;omega,fun b h1 h2=> ?_,fun id x hx=> ?_,M.dom,M.inj,fun i bi hi=> ?_,fun b hb=> ?_,M.base,M.new,M.giv⟩ (fun M0=>M.hid.step (fun _ h=>h) hagr M0.inj (fun id o' j sz es h1 h2=> ?_) (fun b B _=>⟨heap_alloc_old w ob B.lt,B.ns,by simp;have:=B.lt;omega,B.fr,B.ap⟩))
 ·rw [heap_alloc_old w _ (by have:=M.size;omega)];exact M.keep b h1 h2
 ·exact (M.obs id x hx).mono (fun _ h=>h) (fun _ _ h=>h) hagr (fun bi hi=>heap_alloc_old w _ (M.own id bi hi).2.1)
 ·obtain ⟨h1,h2,h3⟩:=M.own i bi hi;exact ⟨h1,by simp;omega,h3⟩
 ·have:=M.sub b hb;simp;omega
 ·obtain ⟨v,⟨o2,bi,q1,q2,q3,q4⟩,_⟩:=M.hid.own id o' j sz es h1 h2
  exact ⟨id,o',bi,bi,fun h=>h,h1,h2,q2,q2,rfl,slotV_same (heap_alloc_old w ob (M.own id bi q2).2.1) j⟩
theorem slotV_map {b:Nat} {es:Array MapEntry} {cl:Nat} (h:w.heap[b]? =some (.map es cl)) (j:Nat):slotV w b j=es[j]?.map (·.val):=by unfold slotV;rw [h]
structure Turns (bi:Bl) (w w':World):Prop where
 os:w'.os=w.os
 tape:w'.tape=w.tape
 output:w'.output=w.output
 size:w.heap.size≤w'.heap.size
 other:∀b,b<w.heap.size→b≠bi.blk→w'.heap[b]? =w.heap[b]?
theorem Mem.turn (M:Mem F S β hp w) {id:Nat} {bi:Bl} {x:Ob} (hi:β id=some bi) (hx:look hp id=some x) (hd:x≠ .dead) (T:Turns bi w w') (o:Ob) (ho:HO S β w' id o)
  (hown:∀j sz es,o.at j=some (.own sz es)→x.at j=some (.own sz es)∧slotV w' bi.blk j=slotV w bi.blk j):
  Ext S S β β w w'∧Mem F S β (putL hp id o) w':=by
 have hagr:Agr S w w':=fun b hb=>T.other b (M.sub b hb) (fun e=>(M.own id bi hi).1 (e▸hb))
 have hlive:∀y,look hp id=some y→y≠ .dead:=fun y hy=>by rw [hx] at hy;injection hy with hy;exact hy▸hd
 refine ⟨⟨fun _ h=>h,fun _ _ h=>h,hagr⟩,?_⟩
 refine Mem.mk' ⟨M.tab,T.os.trans M.os,T.tape.trans M.tape,T.output.trans M.output,Nat.le_trans M.size T.size,fun b h1 h2=> ?_,fun j y hy=> ?_,fun j bj hj=> ?_,fun i j b1 b2 h1 h2 h3 h4 h5=> ?_,fun i b1 h1=> ?_,fun b hb=>Nat.lt_of_lt_of_le (M.sub b hb) T.size,M.base,M.new,M.giv⟩ (fun M0=>M.hid.step (fun _ h=>h) hagr M0.inj (fun id' o' j sz es h1 h2=> ?_) (fun b B _=>⟨T.other b B.lt (fun e=>B.ap id bi hi hlive e.symm),B.ns,Nat.lt_of_lt_of_le B.lt T.size,B.fr,fun i bi hi hl=>B.ap i bi hi (fun y hy=> ?_)⟩))
 ·rw [T.other b (Nat.lt_of_lt_of_le h1 M.size) (fun e=> ?_)];exact M.keep b h1 h2
  rcases (M.own id bi hi).2.2 with ⟨_,h⟩|h
  ·exact h2 (e▸h)
  ·rw [←e] at h;omega
 ·rw [look_put] at hy
  by_cases e:id=j
  ·subst e;rw [if_pos rfl] at hy;injection hy with hy;subst hy;exact ho
  ·rw [if_neg e] at hy
   by_cases hdy:y= .dead
   ·subst hdy;exact M.obs j _ hy
   ·refine (M.obs j y hy).mono (fun _ h=>h) (fun _ _ h=>h) hagr (fun bj hj=>T.other _ (M.own j bj hj).2.1 (fun e2=>e ?_))
    exact (M.inj j id bj bi hj hi (fun z hz=>by rw [hy] at hz;injection hz with hz;exact hz▸hdy) hlive e2).symm
 ·rw [look_put]
  by_cases e:id=j
  ·exact ⟨o,by rw [if_pos e]⟩
  ·rw [if_neg e];exact M.dom j bj hj
 ·have go:∀k,(∀y,look (putL hp id o) k=some y→y≠ .dead)→∀y,look hp k=some y→y≠ .dead:=by
   intro k h y hy
   by_cases e:id=k
   ·subst e;exact hlive y hy
   ·exact h y (by rw [look_put,if_neg e];exact hy)
  exact M.inj i j b1 b2 h1 h2 (go i h3) (go j h4) h5
 ·obtain ⟨a,b,c⟩:=M.own i b1 h1;exact ⟨a,Nat.lt_of_lt_of_le b T.size,c⟩
 ·rw [look_put] at h1
  by_cases e:id=id'
  ·subst e;rw [if_pos rfl] at h1;injection h1 with h1;subst h1
   obtain ⟨k1,k2⟩:=hown j sz es h2
   exact ⟨id,x,bi,bi,fun h=>h,hx,k1,hi,hi,rfl,k2⟩
  ·rw [if_neg e] at h1
   obtain ⟨v,⟨o2,bj,q1,q2,q3,q4⟩,_⟩:=M.hid.own id' o' j sz es h1 h2
   refine ⟨id',o',bj,bj,fun h=>h,h1,h2,q2,q2,rfl,slotV_same (T.other _ (M.own id' bj q2).2.1 (fun e2=>e ?_)) j⟩
   exact (M.inj id' id bj bi q2 hi (fun z hz=>by rw [h1] at hz;injection hz with hz;exact hz▸Ob.at_live h2) hlive e2).symm
 ·by_cases e:id=i
  ·subst e;exact hlive y hy
  ·exact hl y (by rw [look_put,if_neg e];exact hy)
theorem Mem.adopt (M:Mem F S β hp w) {id d:Nat} {bi bj:Bl} {x:Ob} (hid:id<mid∨mid≤d) (hi:β id=some bi) (hx:look hp id=some x) (hd:x≠ .dead) (hn:look hp d=none) (hblk:bj.blk=bi.blk) (T:Turns bi w w') (o:Ob)
  (ho:HO S (β.add d bj) w' d o) (hno:∀j sz es,o.at j≠some (.own sz es)):
  Ext S S β (β.add d bj) w w'∧Mem F S (β.add d bj) (putL (putL hp id .dead) d o) w':=by
 have hb:=M.beta_none hn
 have hne:id≠d:=by rintro rfl;rw [hx] at hn;cases hn
 have hagr:Agr S w w':=fun b hb=>T.other b (M.sub b hb) (fun e=>(M.own id bi hi).1 (e▸hb))
 have hlive:∀y,look hp id=some y→y≠ .dead:=fun y hy=>by rw [hx] at hy;injection hy with hy;exact hy▸hd
 refine ⟨⟨fun _ h=>h,Beta.add_ext hb,hagr⟩,?_⟩
 refine Mem.mk' ⟨M.tab,T.os.trans M.os,T.tape.trans M.tape,T.output.trans M.output,Nat.le_trans M.size T.size,fun b h1 h2=> ?_,fun j y hy=> ?_,fun j bk hj=> ?_,fun i j b1 b2 h1 h2 h3 h4 h5=> ?_,fun i b1 h1=> ?_,fun b hb=>Nat.lt_of_lt_of_le (M.sub b hb) T.size,M.base,M.new,fun i b h1 h2=>Beta.add_ext hb i b (M.giv i b h1 h2)⟩ (fun M0=>M.hid.step (fun _ h=>h) hagr M0.inj (fun id' o' j sz es h1 h2=> ?_) (fun b B _=>⟨T.other b B.lt (fun e=>B.ap id bi hi hlive e.symm),B.ns,Nat.lt_of_lt_of_le B.lt T.size,B.fr,fun i b1 hi1 hl=> ?_⟩))
 ·rw [T.other b (Nat.lt_of_lt_of_le h1 M.size) (fun e=> ?_)];exact M.keep b h1 h2
  rcases (M.own id bi hi).2.2 with ⟨_,h⟩|h
  ·exact h2 (e▸h)
  ·rw [←e] at h;omega
 ·rw [look_put] at hy
  by_cases e:d=j
  ·subst e;rw [if_pos rfl] at hy;injection hy with hy;subst hy;exact ho
  ·rw [if_neg e,look_put] at hy
   by_cases e2:id=j
   ·subst e2;rw [if_pos rfl] at hy;injection hy with hy;subst hy;exact ⟨bi,Beta.add_ext hb _ _ hi⟩
   ·rw [if_neg e2] at hy
    by_cases hdy:y= .dead
    ·subst hdy;obtain ⟨b,hb'⟩:=M.obs j _ hy;exact ⟨b,Beta.add_ext hb _ _ hb'⟩
    ·refine (M.obs j y hy).mono (fun _ h=>h) (Beta.add_ext hb) hagr (fun bj hj=>T.other _ (M.own j bj hj).2.1 (fun e3=>e2 ?_))
     exact (M.inj j id bj bi hj hi (fun z hz=>by rw [hy] at hz;injection hz with hz;exact hz▸hdy) hlive e3).symm
 ·rw [look_put]
  by_cases e:d=j
  ·exact ⟨o,by rw [if_pos e]⟩
  ·rw [if_neg e,look_put]
   rcases Beta.add_cases hj with ⟨e',_⟩|⟨_,hj⟩
   ·exact absurd e'.symm e
   ·by_cases e2:id=j
    ·exact ⟨.dead,by rw [if_pos e2]⟩
    ·rw [if_neg e2];exact M.dom j bk hj
 ·have dead:∀k,k≠d→(∀y,look (putL (putL hp id .dead) d o) k=some y→y≠ .dead)→k≠id:=by
   intro k hk h e
   subst e
   exact h .dead (by rw [look_put,if_neg (Ne.symm hk),look_put,if_pos rfl]) rfl
  have go:∀k,k≠d→(∀y,look (putL (putL hp id .dead) d o) k=some y→y≠ .dead)→∀y,look hp k=some y→y≠ .dead:=by
   intro k hk h y hy
   exact h y (by rw [look_put,if_neg (Ne.symm hk),look_put,if_neg (Ne.symm (dead k hk h))];exact hy)
  rcases Beta.add_cases h1 with ⟨e1,c1⟩|⟨e1,h1⟩<;>rcases Beta.add_cases h2 with ⟨e2,c2⟩|⟨e2,h2⟩
  ·rw [e1,e2]
  ·rw [c1,hblk] at h5
   exact absurd (M.inj id j bi b2 hi h2 hlive (go j e2 h4) h5).symm (dead j e2 h4)
  ·rw [c2,hblk] at h5
   exact absurd (M.inj i id b1 bi h1 hi (go i e1 h3) hlive h5) (dead i e1 h3)
  ·exact M.inj i j b1 b2 h1 h2 (go i e1 h3) (go j e2 h4) h5
 ·rcases Beta.add_cases h1 with ⟨ei,e⟩|⟨_,h1⟩
  ·subst e
   obtain ⟨a,b,c⟩:=M.own id bi hi
   rw [hblk]
   refine ⟨a,Nat.lt_of_lt_of_le b T.size,?_⟩
   rcases c with ⟨c,cm⟩|c
   ·rcases hid with hid|hid
    ·exact absurd c (Nat.not_le.2 hid)
    ·exact .inl ⟨ei▸hid,cm⟩
   ·exact .inr c
  ·obtain ⟨a,b,c⟩:=M.own i b1 h1;exact ⟨a,Nat.lt_of_lt_of_le b T.size,c⟩
 ·rw [look_put] at h1
  by_cases e:d=id'
  ·subst e;rw [if_pos rfl] at h1;injection h1 with h1;subst h1;exact absurd h2 (hno j sz es)
  ·rw [if_neg e,look_put] at h1
   by_cases e2:id=id'
   ·subst e2;rw [if_pos rfl] at h1;injection h1 with h1;subst h1;cases h2
   ·rw [if_neg e2] at h1
    obtain ⟨v,⟨o2,bk,q1,q2,q3,q4⟩,_⟩:=M.hid.own id' o' j sz es h1 h2
    refine ⟨id',o',bk,bk,fun h=>h,h1,h2,q2,Beta.add_ext hb _ _ q2,rfl,slotV_same (T.other _ (M.own id' bk q2).2.1 (fun e3=>e2 ?_)) j⟩
    exact (M.inj id' id bk bi q2 hi (fun z hz=>by rw [h1] at hz;injection hz with hz;exact hz▸Ob.at_live h2) hlive e3).symm
 ·rcases Beta.add_cases hi1 with ⟨_,e⟩|⟨e,hi1⟩
  ·subst e;rw [hblk];exact B.ap id bi hi hlive
  ·by_cases e2:id=i
   ·subst e2;rw [hi] at hi1;injection hi1 with hi1;subst hi1;exact B.ap id bi hi hlive
   ·exact B.ap i b1 hi1 (fun y hy=>hl y (by rw [look_put,if_neg (Ne.symm e),look_put,if_neg e2];exact hy))
theorem Mem.kill (M:Mem F S β hp w) {id:Nat} (hx:∃x,look hp id=some x):Mem F S β (putL hp id .dead) w:=by
 obtain ⟨x,hx⟩:=hx
 have hbi:∃bi,β id=some bi:=by
  have:=M.obs id x hx
  cases x with
  |var cs=>obtain ⟨bi,h,_⟩:=this;exact ⟨bi,h⟩
  |row sz es=>obtain ⟨bi,h,_⟩:=this;exact ⟨bi,h⟩
  |map ks vs=>obtain ⟨bi,es,cl,h,_⟩:=this;exact ⟨bi,h⟩
  |dead=>exact this
 refine Mem.mk' ⟨M.tab,M.os,M.tape,M.output,M.size,M.keep,fun j y hy=> ?_,fun j bj hj=> ?_,fun i j b1 b2 h1 h2 h3 h4 h5=> ?_,M.own,M.sub,M.base,M.new,M.giv⟩ (fun M0=>M.hid.step (fun _ h=>h) (Agr.refl S w) M0.inj (fun id' o' j sz es h1 h2=> ?_) (fun b B _=>⟨rfl,B.ns,B.lt,B.fr,fun i bi hi hl=>B.ap i bi hi (fun y hy=> ?_)⟩))
 ·rw [look_put] at hy
  by_cases e:id=j
  ·subst e;rw [if_pos rfl] at hy;injection hy with hy;subst hy;exact hbi
  ·rw [if_neg e] at hy;exact M.obs j y hy
 ·rw [look_put]
  by_cases e:id=j
  ·exact ⟨.dead,by rw [if_pos e]⟩
  ·rw [if_neg e];exact M.dom j bj hj
 ·have go:∀k,(∀y,look (putL hp id .dead) k=some y→y≠ .dead)→∀y,look hp k=some y→y≠ .dead:=by
   intro k h y hy
   by_cases e:id=k
   ·subst e;exact absurd rfl (h .dead (by rw [look_put,if_pos rfl]))
   ·exact h y (by rw [look_put,if_neg e];exact hy)
  exact M.inj i j b1 b2 h1 h2 (go i h3) (go j h4) h5
 ·rw [look_put] at h1
  by_cases e:id=id'
  ·subst e;rw [if_pos rfl] at h1;injection h1 with h1;subst h1;cases h2
  ·rw [if_neg e] at h1
   obtain ⟨v,⟨o2,bj,q1,q2,q3,q4⟩,_⟩:=M.hid.own id' o' j sz es h1 h2
   exact ⟨id',o',bj,bj,fun h=>h,h1,h2,q2,q2,rfl,rfl⟩
 ·by_cases e:id=i
  ·subst e;exact absurd rfl (hl .dead (by rw [look_put,if_pos rfl]))
  ·exact hl y (by rw [look_put,if_neg e];exact hy)
end
end
section
section
variable {P:Program} {F:Fr} {S:Blk} {β:Beta} {hp:List (Nat×Ob)} {w:World} {a:Act} {o:Oper} {res:Res} {rd:List Nat} {sc:List Dir}
def OpOK (P:Program) (F:Fr) (S:Blk) (β:Beta) (hp:List (Nat×Ob)) (w:World) (a:Act) (o:Oper) (res:Res):Prop:=
 ∀(K:Act→World→Prop) (Q:Exit→Act→World→Prop),
  (∀v w' S' β',Ext S S' β β' w w'→Mem F S' β' (putAll hp res.upd) w'→V S' β' w' v res.v→K (a.put o.dst v) w')→o.upon P a K Q ((execOp a.eval o).run P w)
theorem ok_value {v:Value} {w':World} {S':Blk} {β':Beta} (hr:(execOp a.eval o).run P w= .ok (.value v) w') (E:Ext S S' β β' w w') (M:Mem F S' β' (putAll hp res.upd) w') (hv:V S' β' w' v res.v):
  OpOK P F S β hp w a o res:=by
 intro K Q h
 rw [hr]
 exact h v w' S' β' E M hv
theorem ok_skip {w':World} {S':Blk} {β':Beta} (hr:(execOp a.eval o).run P w= .ok .skip w') (E:Ext S S' β β' w w') (M:Mem F S' β' (putAll hp res.upd) w') (hv:res.v= .dead):
  OpOK P F S β hp w a o res:=by
 intro K Q h
 rw [hr]
 exact h undef w' S' β' E M (by rw [hv];exact .dead _)
theorem ok_same {v:Value} (M:Mem F S β hp w) (hr:(execOp a.eval o).run P w= .ok (.value v) w) (hu:res.upd=[]) (hv:V S β w v res.v):OpOK P F S β hp w a o res:=
 ok_value hr (Ext.refl _ _ _) (by rw [hu];exact M) hv
theorem val_run {x:AV} (h:(val x sc).run (look hp)=some (res,rd)):res.v=x∧res.upd=[]∧res.new=[]∧res.cs=[]:=by
 injection h with h;injection h with h _;subst h;exact ⟨rfl,rfl,rfl,rfl⟩
theorem valIf_run {x:AV} {c:Prop} [Chk c] (h:(valIf x c sc).run (look hp)=some (res,rd)):res.v=x∧res.upd=[]∧res.new=[]∧res.cs=[mkC c]:=by
 injection h with h;injection h with h _;subst h;exact ⟨rfl,rfl,rfl,rfl⟩
theorem truth_run {b:Bool} (h:(truth b sc).run (look hp)=some (res,rd)) (hc:∀c,c∈res.cs→c.p):res.v= .bool b∧res.upd=[]:=by
 unfold truth at h
 split at h
 ·obtain ⟨h1,h2,_,h4⟩:=valIf_run h
  have:=hc _ (by rw [h4];exact List.mem_singleton.2 rfl)
  exact ⟨by rw [h1,this],h2⟩
 ·obtain ⟨h1,h2,_,_⟩:=val_run h
  exact ⟨h1,h2⟩
 ·cases h
theorem V.unNil {v:Value} {x:AV} (h:V S β w v x):V S β w v (Ped.unNil x):=by
 cases h with
 |nils=>exact .seq none 0 0 0 0 [] true (fun _ _=>undef) (by simp) (by simp [maxLen]) (fun _=>rfl) (fun h=>absurd rfl h) (by simp) (by simp) (by simp)
 |int k n=>exact .int k n
 |bool b=>exact .bool b
 |str s=>exact .str s
 |agg vs cs hl h=>exact .agg vs cs hl h
 |tup vs cs hl h=>exact .tup vs cs hl h
 |seq p cap sz b o es clip U hcap hmax hclip hp hsz hc hv=>exact .seq p cap sz b o es clip U hcap hmax hclip hp hsz hc hv
 |row id off len a bi hb hle ha=>exact .row id off len a bi hb hle ha
 |tptr b o cs U hb hc hv=>exact .tptr b o cs U hb hc hv
 |elt id k off bi hb=>exact .elt id k off bi hb
 |nilp=>exact .nilp
 |map id bi hb=>exact .map id bi hb
 |tmap r es cl ks vs hb hr hk hl hkv hvv=>exact .tmap r es cl ks vs hb hr hk hl hkv hvv
 |nilmap=>exact .nilmap
 |clo f fs gs first cap hf hg hfv hgv=>exact .clo f fs gs first cap hf hg hfv hgv
 |nilf=>exact .nilf
 |iface t v x h=>exact .iface t v x h
 |nili=>exact .nili
 |own p cap sz es=>exact .own p cap sz es
 |emp a cap hm=>exact .seq (some a) cap 0 0 0 [] false (fun _ _=>undef) (by simp) hm (fun h=>by cases h) (fun h=>absurd rfl h) (by simp) (by simp) (by simp)
 |dead v=>exact .dead v
theorem const1_sound (v:Value):V S β w v (const1 v):=by
 unfold const1
 split
 ·exact .int _ _
 ·exact .bool _
 ·exact .str _
 ·exact .nilp
 ·exact .nils
 ·exact .nilmap
 ·exact .nilf
 ·exact .nili
 ·exact .dead _
theorem constA_sound (v:Value):V S β w v (constA v):=by
 unfold constA
 split
 ·rename_i cs
  have:V S β w (.agg cs.toList.toArray) (.agg (cs.toList.map const1)):=by
   refine .agg _ _ (by simp) fun i v c h1 h2=> ?_
   rw [List.getElem?_map,h1] at h2
   injection h2 with h2
   subst h2
   exact const1_sound v
  simpa using this
 ·exact const1_sound v
theorem evalA_sound {n:Nat} {env:List (Nat×AV)} (E:Env S β w n env a) (x:Operand):V S β w (a.eval x) (evalA env x):=by
 cases x with
 |tmp t=>exact E.2.2 t
 |const v=>exact constA_sound v
 |global g=>exact .dead _
 |func f=>exact .clo f [] [] [] [] rfl rfl (by simp) (by simp)
theorem run_sizeOfA {t:TypeId} {n:Nat} (h:sizeA P t=some n):(sizeOf t).run P w= .ok n w:=by
 unfold sizeA at h
 obtain ⟨i,hi,rfl⟩:=Option.map_eq_some_iff.1 h
 simp [sizeOf,typeInfo,hi]
theorem run_isAggA {t:TypeId} {b:Bool} (h:aggA P t=some b):(isAgg t).run P w= .ok b w:=by
 unfold aggA at h
 cases hu:P.underlying t with
 |none=>rw [hu] at h;cases h
 |some d=>
  rw [hu] at h
  cases d<;>simp at h<;>subst h<;>simp [isAgg,run_underlying hu]
theorem run_loadCellsA (b o:Nat) (cs:List Value) (h:∀(j:Nat) v,cs[j]? =some v→w.cell? ⟨b,o+j,none⟩=some v):(loadCells ⟨b,o,none⟩ cs.length).run P w= .ok cs.toArray w:=by
 have:=run_loadCells_list (P:=P) w ⟨b,o,none⟩ cs (fun j v hj=>by rw [Addr.add_lit];exact h j v hj)
 simpa using this
theorem read_sound {t:TypeId} {cs:List AV} {x:AV} (hr:readA P t cs=some x) (b o:Nat) (hc:∀(j:Nat) c,cs[j]? =some c→∃u,w.cell? ⟨b,o+j,none⟩=some u∧V S β w u c):
  ∃v,(loadVar t ⟨b,o,none⟩).run P w= .ok v w∧V S β w v x:=by
 unfold readA at hr
 cases ha:aggA P t with
 |none=>rw [ha] at hr;simp at hr
 |some g=>
  cases hs:sizeA P t with
  |none=>rw [ha,hs] at hr;cases g<;>simp at hr
  |some n=>
   rw [ha,hs] at hr
   cases g with
   |true=>
    simp only at hr
    split at hr
    ·rename_i hle
     injection hr with hr
     subst hr
     have hex:∃vs:List Value,vs.length=n∧∀(j:Nat) v,vs[j]? =some v→w.cell? ⟨b,o+j,none⟩=some v∧∀c,cs[j]? =some c→V S β w v c:=by
      have:∀m,m≤n→∃vs:List Value,vs.length=m∧∀(j:Nat) v,vs[j]? =some v→w.cell? ⟨b,o+j,none⟩=some v∧∀c,cs[j]? =some c→V S β w v c:=by
       intro m
       induction m with
       |zero=>intro _;exact ⟨[],rfl,by simp⟩
       |succ m ih=>
        intro hm
        obtain ⟨vs,hl,hv⟩:=ih (by omega)
        have hlt:m<cs.length:=by omega
        obtain ⟨u,hu,hV⟩:=hc m _ (List.getElem?_eq_getElem hlt)
        refine ⟨vs++[u],by simp [hl],fun j v hj=> ?_⟩
        by_cases hjm:j<m
        ·rw [List.getElem?_append_left (by omega)] at hj;exact hv j v hj
        ·have hjl:j<(vs++[u]).length:=(List.getElem?_eq_some_iff.1 hj).1
         have:j=m:=by simp [hl] at hjl;omega
         subst this
         rw [List.getElem?_append_right (by omega)] at hj
         simp [hl] at hj
         subst hj
         refine ⟨hu,fun c hcj=> ?_⟩
         rw [List.getElem?_eq_getElem hlt] at hcj
         injection hcj with hcj
         rw [←hcj];exact hV
      exact this n (Nat.le_refl _)
     obtain ⟨vs,hl,hv⟩:=hex
     refine ⟨.agg vs.toArray,?_,.agg vs _ (by rw [hl,List.length_take];omega) fun i v c h1 h2=> ?_⟩
     ·have h1:=run_loadCellsA (P:=P) (w:=w) b o vs (fun j v hj=>(hv j v hj).1)
      rw [hl] at h1
      simp [loadVar,run_isAggA ha,run_sizeOfA hs,h1]
     ·refine (hv i v h1).2 c ?_
      rw [List.getElem?_take] at h2
      split at h2
      ·exact h2
      ·cases h2
    ·cases hr
   |false=>
    simp only at hr
    have h0:cs[0]? =some x:=by rw [←List.head?_eq_getElem?];exact hr
    obtain ⟨u,hu,hV⟩:=hc 0 x h0
    refine ⟨u,?_,hV⟩
    simp only [Nat.add_zero] at hu
    simp [loadVar,run_isAggA ha,hu]
theorem cell_row {w:World} {g:Nat} {cur:Array Value} {t:TypeId} {fr:Nat×Nat} (h:w.heap[g]? =some (.cells cur t fr)) (j:Nat):w.cell? ⟨g,j,none⟩=cur[j]? :=
 cell_of_row w g j cur t fr h
theorem HR.at_ {bi:Bl} {es:List AV} (h:HR S β w bi es) {k:Nat} {e:AV} (he:es[k]? =some e) (off:Nat):
  ∀(j:Nat) c,(e.cells.drop off)[j]? =some c→∃u,w.cell? ⟨bi.blk,k*bi.sz+off+j,none⟩=some u∧V S β w u c:=by
 obtain ⟨cur,t,h1,h2,h3,h4,h5,h6⟩:=h
 intro j c hc
 rw [List.getElem?_drop] at hc
 obtain ⟨u,hu,hv⟩:=h6 k (off+j) e c he hc
 refine ⟨u,?_,hv⟩
 rw [cell_row h1,←hu]
 congr 1
 omega
theorem ok_load {t:TypeId} {x:Operand} {X:AV} (ho:o.op= .load t x) (M:Mem F S β hp w) (hx:V S β w (a.eval x) X) (hr:(loadA P t X sc).run (look hp)=some (res,rd)) (hc:∀c,c∈res.cs→c.p):
  OpOK P F S β hp w a o res:=by
 have fin:∀{b off:Nat} {cs:List AV} {y:AV},a.eval x= .pointer (some ⟨b,off,none⟩)→readA P t cs=some y→(∀(j:Nat) c,cs[j]? =some c→∃u,w.cell? ⟨b,off+j,none⟩=some u∧V S β w u c)→
   res.v=y→res.upd=[]→OpOK P F S β hp w a o res:=by
  intro b off cs y hp' hy hcells hv hu
  obtain ⟨v,h1,h2⟩:=read_sound (P:=P) hy b off hcells
  refine ok_same M (v:=v) ?_ hu (by rw [hv];exact h2)
  simp [execOp,ho,hp',Instr.loadAt,Instr.sureAddr,h1]
 cases X with
 |tptr cs=>
  simp only [loadA] at hr
  cases hq:readA P t cs with
  |none=>rw [hq] at hr;cases hr
  |some y=>
   rw [hq] at hr
   obtain ⟨h1,h2,_,_⟩:=val_run hr
   generalize hv:a.eval x=v0 at hx
   cases hx with
   |tptr b o' _ U hS hcc hvv=>exact fin hv hq (fun j c hj=>⟨U j,hcc j c hj,(hvv j c hj).up⟩) h1 h2
 |elt id k off=>
  simp only [loadA] at hr
  generalize hv:a.eval x=v0 at hx
  cases hx with
  |elt _ _ _ bi hb=>
   simp only [Rd.run] at hr
   cases hl:look hp id with
   |none=>rw [hl] at hr;cases hr
   |some ob=>
    have hob:=M.obs id ob hl
    rw [hl] at hr
    cases ob with
    |var cs=>
     simp only at hr
     by_cases hk:k=0
     ·rw [if_pos hk] at hr
      cases hq:readA P t (cs.drop off) with
      |none=>rw [hq] at hr;cases hr
      |some y=>
       rw [hq] at hr
       simp only [val,Rd.run] at hr
       injection hr with hr;injection hr with hr _;subst hr
       obtain ⟨bj,e1,e2,e3⟩:=hob
       rw [hb] at e1;injection e1 with e1;subst e1
       have:=e3.at_ (k:=0) (e:= .agg cs) rfl off
       subst hk
       simp only [Nat.zero_mul,Nat.zero_add] at hv this
       exact fin hv hq this rfl rfl
     ·rw [if_neg hk] at hr;cases hr
    |row sz es=>
     simp only at hr
     cases sc with
     |nil=>cases hr
     |cons dd sc''=>
      cases dd with
      |elt e=>
       simp only at hr
       cases hq:readA P t (e.cells.drop off) with
       |none=>rw [hq] at hr;cases hr
       |some y=>
        rw [hq] at hr
        simp only [valIf,Rd.run] at hr
        injection hr with hr;injection hr with hr _;subst hr
        obtain ⟨bj,e1,e2,e3⟩:=hob
        rw [hb] at e1;injection e1 with e1;subst e1
        have hek:es[k]? =some e:=hc _ (List.mem_singleton.2 rfl)
        exact fin hv hq (e3.at_ hek off) rfl rfl
      |_=>cases hr
    |map ks vs=>cases hr
    |dead=>cases hr
 |_=>cases hr
end
end
section
section
variable {P:Program} {F:Fr} {S:Blk} {β:Beta} {hp:List (Nat×Ob)} {w:World} {a:Act} {o:Oper} {res:Res} {rd:List Nat} {sc:List Dir}
theorem ok_move {x:Operand} {X:AV} (ho:o.op= .move x∨o.op= .assign x) (M:Mem F S β hp w) (hx:V S β w (a.eval x) X) (hr:(val X sc).run (look hp)=some (res,rd)):OpOK P F S β hp w a o res:=by
 obtain ⟨h1,h2,_,_⟩:=val_run hr
 refine ok_same M (v:=a.eval x) ?_ h2 (by rw [h1];exact hx)
 rcases ho with ho|ho<;>simp [execOp,ho]
theorem ok_pick {c x y:Operand} {b:Bool} {X Y:AV} (ho:o.op= .pick c x y) (M:Mem F S β hp w) (hc:V S β w (a.eval c) (.bool b)) (hx:V S β w (a.eval x) X) (hy:V S β w (a.eval y) Y)
  (hr:(val (pickA b X Y) sc).run (look hp)=some (res,rd)):OpOK P F S β hp w a o res:=by
 obtain ⟨h1,h2,_,_⟩:=val_run hr
 generalize hv:a.eval c=v at hc
 cases hc with
 |bool b=>
  refine ok_same M (v:=if b then a.eval x else a.eval y) ?_ h2 ?_
  ·simp [execOp,ho,hv,asBool]
  ·rw [h1]
   cases b
   ·rw [show pickA false X Y=Y by unfold pickA;split<;>rfl];exact hy
   ·rw [show pickA true X Y=X by unfold pickA;split<;>rfl];exact hx
theorem run_fieldPlace {f:Field} {n:Nat} (h:sizeA P f.type=some (n+1)) (b off:Nat):(fieldPlace ⟨b,off,none⟩ f).run P w= .ok ⟨b,off+f.offset,none⟩ w:=by
 simp [fieldPlace,run_sizeOfA h,Addr.add_lit]
theorem ok_fieldAddr {s:TypeId} {x:Operand} {f:Nat} {X:AV} (ho:o.op= .fieldAddr s x f) (M:Mem F S β hp w) (hx:V S β w (a.eval x) X) (hr:(fieldAddrA P s f X sc).run (look hp)=some (res,rd)):
  OpOK P F S β hp w a o res:=by
 unfold fieldAddrA at hr
 cases hoff:offsetA P s f with
 |none=>rw [hoff] at hr;cases hr
 |some off=>
  rw [hoff] at hr
  have hplace:∀b q,(Instr.fieldAt s (.pointer (some ⟨b,q,none⟩)) f).run P w= .ok (.pointer (some ⟨b,q+off,none⟩)) w:=by
   intro b q
   unfold offsetA at hoff
   cases hu:P.underlying s with
   |none=>rw [hu] at hoff;cases hoff
   |some d=>
    rw [hu] at hoff
    cases d<;>first
     |(cases hoff;done)
     |skip
    rename_i fields
    simp only at hoff
    cases hf:fields[f]? with
    |none=>rw [hf] at hoff;cases hoff
    |some g=>
     rw [hf] at hoff
     simp only at hoff
     cases hs:sizeA P g.type with
     |none=>rw [hs] at hoff;cases hoff
     |some m=>
      rw [hs] at hoff
      cases m with
      |zero=>cases hoff
      |succ m=>
       injection hoff with hoff
       subst hoff
       simp [Instr.fieldAt,run_underlying hu,hf,Instr.sureAddr,run_fieldPlace hs]
  cases X with
  |elt id k q=>
   obtain ⟨h1,h2,_,_⟩:=val_run hr
   generalize hv:a.eval x=v at hx
   cases hx with
   |elt _ _ _ bi hb=>
    refine ok_same M (v:= .pointer (some ⟨bi.blk,k*bi.sz+q+off,none⟩)) ?_ h2 ?_
    ·simp [execOp,ho,hv,hplace]
    ·rw [h1,Nat.add_assoc];exact .elt id k (q+off) bi hb
  |tptr cs=>
   obtain ⟨h1,h2,_,_⟩:=val_run hr
   generalize hv:a.eval x=v at hx
   cases hx with
   |tptr b q _ U hS hcc hvv=>
    refine ok_same M (v:= .pointer (some ⟨b,q+off,none⟩)) ?_ h2 ?_
    ·simp [execOp,ho,hv,hplace]
    ·rw [h1]
     refine .tptr b (q+off) _ (fun j=>U (off+j)) hS (fun j c hj=> ?_) (fun j c hj=> ?_)
     ·rw [List.getElem?_drop] at hj
      have:=hcc _ _ hj
      rwa [show q+off+j=q+(off+j) by omega]
     ·rw [List.getElem?_drop] at hj
      exact hvv _ _ hj
  |_=>cases hr
theorem ok_indexAddr {t:TypeId} {x i:Operand} {X:AV} {k:IntKind} {n:Int} (ho:o.op= .indexAddr t x i) (M:Mem F S β hp w) (hx:V S β w (a.eval x) X) (hi:V S β w (a.eval i) (.int k n))
  (hr:(indexAddrA P t X n sc).run (look hp)=some (res,rd)) (hc:∀c,c∈res.cs→c.p):OpOK P F S β hp w a o res:=by
 unfold indexAddrA at hr
 generalize hvi:a.eval i=vi at hi
 cases hi
 cases he:elemA P t with
 |none=>rw [he] at hr;cases hr
 |some es0=>
  obtain ⟨e,size⟩:=es0
  rw [he] at hr
  simp only at hr
  have hel:P.underlying t=some (.slice e)∧sizeA P e=some size:=by
   unfold elemA at he
   cases hu:P.underlying t with
   |none=>rw [hu] at he;cases he
   |some d=>
    rw [hu] at he
    cases d<;>first
     |(cases he;done)
     |skip
    rename_i e'
    simp only at he
    obtain ⟨m,hm,hq⟩:=Option.map_eq_some_iff.1 he
    injection hq with q1 q2
    subst q1;subst q2
    exact ⟨rfl,hm⟩
  obtain ⟨hu,hs⟩:=hel
  have hplace:∀(b q len cap:Nat),0≤n∧n<len→(Instr.indexAt t (.slice (some ⟨b,q,none⟩) len cap) (.int k n)).run P w= .ok (.pointer (some ⟨b,q+n.toNat*size,none⟩)) w:=by
   intro b q len cap h
   simp [Instr.indexAt,asIntOf,run_underlying hu,run_sizeOfA hs,Addr.add_lit,h]
  cases X with
  |seq es clip=>
   cases sc with
   |nil=>cases hr
   |cons dd sc'=>
    cases dd with
    |elt e1=>
     simp only at hr
     by_cases hsz1:e1.cells.length=size
     ·rw [if_pos hsz1] at hr
      obtain ⟨h1,h2,_,h4⟩:=valIf_run hr
      obtain ⟨hn,hget⟩:=hc _ (by rw [h4];exact List.mem_singleton.2 rfl)
      generalize hv:a.eval x=v at hx
      cases hx with
      |seq p cap sz b q _ _ U hcap hmax hclip hp' hsz hcc hvv=>
       have hne:es≠[]:=by rintro rfl;simp at hget
       obtain ⟨rfl,hS⟩:=hp' hne
       have hlt:n.toNat<es.length:=(List.getElem?_eq_some_iff.1 hget).1
       have hsz2:sz=size:=by rw [←hsz _ _ hget];exact hsz1
       subst hsz2
       refine ok_same M (v:= .pointer (some ⟨b,q+n.toNat*sz,none⟩)) ?_ h2 ?_
       ·simp [execOp,ho,hv,hvi,hplace b q es.length cap ⟨hn,by omega⟩]
       ·rw [h1]
        exact .tptr b _ _ (fun j=>U n.toNat j) hS (fun j c hj=>hcc _ _ _ _ hget hj) (fun j c hj=>hvv _ _ _ _ hget hj)
     ·rw [if_neg hsz1] at hr;cases hr
    |_=>cases hr
  |row id off len=>
   simp only [Rd.run] at hr
   cases hl:look hp id with
   |none=>rw [hl] at hr;cases hr
   |some ob=>
    rw [hl] at hr
    have hob:=M.obs id ob hl
    cases ob with
    |row sz es=>
     simp only at hr
     by_cases hsz:sz=size
     ·rw [if_pos hsz] at hr
      simp only [valIf,Rd.run] at hr
      injection hr with hr;injection hr with hr _;subst hr
      obtain ⟨hn,hlt⟩:=hc _ (List.mem_singleton.2 rfl)
      generalize hv:a.eval x=v at hx
      cases hx with
      |row _ _ _ ad bi hb hle ha=>
       obtain ⟨bj,e1,e2,e3⟩:=hob
       rw [hb] at e1;injection e1 with e1;subst e1
       have had:=ha (by omega)
       subst had
       refine ok_same M (v:= .pointer (some ⟨bi.blk,off*bi.sz+n.toNat*size,none⟩)) ?_ rfl ?_
       ·simp [execOp,ho,hv,hvi,hplace _ _ len _ ⟨hn,hlt⟩]
       ·rw [←hsz,←e2,←Nat.add_mul]
        exact .elt id (off+n.toNat) 0 bi hb
     ·rw [if_neg hsz] at hr;cases hr
    |_=>cases hr
  |_=>cases hr
theorem ok_index {t:TypeId} {x i:Operand} {X:AV} {k:IntKind} {n:Int} (ho:o.op= .index t x i) (M:Mem F S β hp w) (hx:V S β w (a.eval x) X) (hi:V S β w (a.eval i) (.int k n))
  (hr:(indexA P t X n sc).run (look hp)=some (res,rd)) (hc:∀c,c∈res.cs→c.p):OpOK P F S β hp w a o res:=by
 unfold indexA at hr
 generalize hvi:a.eval i=vi at hi
 cases hi
 split at hr
 ·rename_i s hu
  split at hr
  ·rename_i m sc'
   obtain ⟨h1,h2,_,h4⟩:=valIf_run hr
   obtain ⟨hn,b,hb,hm⟩:=hc _ (by rw [h4];exact List.mem_singleton.2 rfl)
   generalize hv:a.eval x=v at hx
   cases hx with
   |str s=>
    have hlt:n.toNat<s.data.toList.length:=(List.getElem?_eq_some_iff.1 hb).1
    have hlt':n.toNat<s.size:=by simpa using hlt
    have hget:s[n.toNat]? =some b:=by
     rw [ByteArray.getElem?_lt' s _ hlt']
     have:=(List.getElem?_eq_some_iff.1 hb).2
     rw [←this];rfl
    refine ok_same M (v:= .int .u8 m) ?_ h2 (by rw [h1];exact .int _ _)
    simp [execOp,ho,hv,hvi,Instr.index,asIntOf,run_underlying hu,hn,hget,hm]
  ·cases hr
 ·cases hr
theorem beq_text (x y:ByteArray):(x.toList==y.toList)=decide (x=y):=by
 rw [Bool.eq_iff_iff,beq_iff_eq,decide_eq_true_iff]
 constructor
 ·intro h
  rw [ByteArray.toList_eq,ByteArray.toList_eq] at h
  cases x;cases y
  simpa using h
 ·intro h;rw [h]
theorem ok_binOp {op:BinOp} {t ty:TypeId} {x y:Operand} {X Y:AV} (ho:o.op= .binOp op t x y ty) (M:Mem F S β hp w) (hx:V S β w (a.eval x) X) (hy:V S β w (a.eval y) Y)
  (hr:(binOpA P op t X Y sc).run (look hp)=some (res,rd)) (hc:∀c,c∈res.cs→c.p):OpOK P F S β hp w a o res:=by
 unfold binOpA at hr
 split at hr
 ·rename_i k p k' q
  by_cases hk:k=k'
  ·rw [if_pos hk] at hr
   subst hk
   generalize hvx:a.eval x=vx at hx
   generalize hvy:a.eval y=vy at hy
   cases hx;cases hy
   have arith:∀m:Int,(arithA k m sc).run (look hp)=some (res,rd)→(binOp op t (.int k p) (.int k q)).run P w= .ok (.int k (k.wrap m)) w→OpOK P F S β hp w a o res:=by
    intro m h1 h2
    obtain ⟨e1,e2,_,e4⟩:=valIf_run h1
    have hw:=hc _ (by rw [e4];exact List.mem_singleton.2 rfl)
    simp only [] at hw
    refine ok_same M (v:= .int k m) ?_ e2 (by rw [e1];exact .int _ _)
    simp [execOp,ho,hvx,hvy,eqGuard_at_int,h2,hw]
   have cmp:∀c:Bool,(truth c sc).run (look hp)=some (res,rd)→(binOp op t (.int k p) (.int k q)).run P w= .ok (.bool c) w→OpOK P F S β hp w a o res:=by
    intro c h1 h2
    obtain ⟨e1,e2⟩:=truth_run h1 hc
    refine ok_same M (v:= .bool c) ?_ e2 (by rw [e1];exact .bool _)
    simp [execOp,ho,hvx,hvy,eqGuard_at_int,h2]
   have shl:(valIf (.int k (shlI p q)) (0≤q∧q.toNat≤k.bits∧k.wrap (shlI p q)=shlI p q) sc).run (look hp)=some (res,rd)→op= .shl→OpOK P F S β hp w a o res:=by
    intro h1 h2
    subst h2
    obtain ⟨e1,e2,_,e4⟩:=valIf_run h1
    have hw:=hc _ (by rw [e4];exact List.mem_singleton.2 rfl)
    simp only [] at hw
    obtain ⟨w1,w2,w3⟩:=hw
    refine ok_same M (v:= .int k (shlI p q)) ?_ e2 (by rw [e1];exact .int _ _)
    have hb:(binOp .shl t (.int k p) (.int k q)).run P w= .ok (.int k (shlI p q)) w:=by
     have w4:k.wrap (p*2^q.toNat)=shlI p q:=w3
     simp [binOp,Op.shift,Int.not_lt.2 w1,Nat.min_eq_left w2,w4]
    simp [execOp,ho,hvx,hvy,eqGuard_at_int,hb]
   cases op<;>first
    |exact shl hr rfl
    |exact arith _ hr (by simp [binOp,Op.intArith])
    |exact cmp _ hr (by simp [binOp,Op.intCmp];try rfl)
    |(simp only [cmpA] at hr;cases hr)
  ·rw [if_neg hk] at hr;cases hr
 ·rename_i p q
  generalize hvx:a.eval x=vx at hx
  generalize hvy:a.eval y=vy at hy
  cases hx;cases hy
  have cmp:∀c:Bool,(truth c sc).run (look hp)=some (res,rd)→(binOp op t (.string p) (.string q)).run P w= .ok (.bool c) w→OpOK P F S β hp w a o res:=by
   intro c h1 h2
   obtain ⟨e1,e2⟩:=truth_run h1 hc
   refine ok_same M (v:= .bool c) ?_ e2 (by rw [e1];exact .bool _)
   simp [execOp,ho,hvx,hvy,eqGuard_at_string,h2]
  cases op<;>first
   |exact cmp _ hr (by simp [binOp,Op.stringOp,beq_text])
   |(cases hr;done)
   |skip
  obtain ⟨e1,e2,_,e4⟩:=valIf_run hr
  have hw:=hc _ (by rw [e4];exact List.mem_singleton.2 rfl)
  simp only [] at hw
  refine ok_same M (v:= .string (p++q)) ?_ e2 (by rw [e1];exact .str _)
  have hn:¬((p.size:Int)+(q.size:Int)>9223372036854775807):=by omega
  simp [execOp,ho,hvx,hvy,eqGuard_at_string,binOp,Op.stringOp,hn]
 ·rename_i p q
  generalize hvx:a.eval x=vx at hx
  generalize hvy:a.eval y=vy at hy
  cases hx;cases hy
  split at hr
  ·rename_i hu
   have hu':P.underlying t=some .bool:=by
    cases h:P.underlying t with
    |none=>rw [h] at hu;simp at hu
    |some d=>cases d<;>simp [h] at hu⊢
   have hbin:∀b1 b2,(Op.equal t (.bool b1) (.bool b2)).run P w= .ok (decide (b1=b2)) w:=by
    intro b1 b2
    simp only [Op.equal,Op.maxDepth]
    rw [run_equalIn_bool' w 9999 t b1 b2 hu']
    cases b1<;>cases b2<;>rfl
   cases op<;>first
    |(obtain ⟨e1,e2⟩:=truth_run hr hc;refine ok_same M (v:= .bool _) ?_ e2 (by rw [e1];exact .bool _);simp [execOp,ho,hvx,hvy,eqGuard_at_bool,binOp,hbin])
    |(cases hr;done)
  ·cases hr
 ·cases hr
theorem nilQ_eq {t:TypeId} {d:TypeDesc} (hd:P.underlying t=some d) {v u:Value} {x y:AV} {b:Bool} (hx:V S β w v x) (hy:V S β w u y) (h:nilQ d x y=some b) (k:Nat):
  (Op.equalIn (k+1) t v u).run P w= .ok b w:=by
 unfold nilQ at h
 split at h<;>first
  |(cases h;done)
  |skip
 all_goals
  injection h with h
  subst h
  cases hx
  cases hy
 all_goals first
  |(simp [Op.equalIn,run_underlying hd];done)
  |skip
 rename_i hp _ _ _ _
 obtain ⟨rfl,_⟩:=hp (by simp)
 simp [Op.equalIn,run_underlying hd]
theorem nilQ_forms {d:TypeDesc} {v u:Value} {x y:AV} {b:Bool} (hx:V S β w v x) (hy:V S β w u y) (h:nilQ d x y=some b) (t:TypeId):
  binOp .eql t v u=(do pure (.bool (←Op.equal t v u)))∧binOp .neq t v u=(do pure (.bool (!(←Op.equal t v u))))∧∀op p q,(eqGuard op t p q v u).run P w= .ok () w:=by
 unfold nilQ at h
 split at h<;>first
  |(cases h;done)
  |skip
 all_goals
  cases hx
  cases hy
  exact ⟨rfl,rfl,fun op p q=>by cases op<;>simp [eqGuard]⟩
theorem nilQ_sound {t:TypeId} {d:TypeDesc} (hd:P.underlying t=some d) {v u:Value} {x y:AV} {b:Bool} (hx:V S β w v x) (hy:V S β w u y) (h:nilQ d x y=some b):
  (binOp .eql t v u).run P w= .ok (.bool b) w∧(binOp .neq t v u).run P w= .ok (.bool (!b)) w∧∀op p q,(eqGuard op t p q v u).run P w= .ok () w:=by
 obtain ⟨h2,h3,h4⟩:=nilQ_forms (P:=P) hx hy h t
 have h1:(Op.equal t v u).run P w= .ok b w:=nilQ_eq hd hx hy h 9999
 refine ⟨?_,?_,h4⟩
 ·rw [h2];simp [h1]
 ·rw [h3];simp [h1]
theorem ok_nil {op:BinOp} {t ty:TypeId} {x y:Operand} {X Y:AV} (ho:o.op= .binOp op t x y ty) (M:Mem F S β hp w) (hx:V S β w (a.eval x) X) (hy:V S β w (a.eval y) Y)
  (hr:(nilA P op t X Y sc).run (look hp)=some (res,rd)) (hc:∀c,c∈res.cs→c.p):OpOK P F S β hp w a o res:=by
 unfold nilA at hr
 cases hu:P.underlying t with
 |none=>rw [hu] at hr;cases hr
 |some d=>
  rw [hu] at hr
  simp only at hr
  cases hq:nilQ d X Y with
  |none=>rw [hq] at hr;cases hr
  |some b=>
   rw [hq] at hr
   obtain ⟨h1,h2,h3⟩:=nilQ_sound hu hx hy hq
   cases op<;>first
    |(simp only at hr;cases hr;done)
    |skip
   ·obtain ⟨e1,e2⟩:=truth_run hr hc
    refine ok_same M (v:= .bool b) ?_ e2 (by rw [e1];exact .bool _)
    simp [execOp,ho,h3,h1]
   ·obtain ⟨e1,e2⟩:=truth_run hr hc
    refine ok_same M (v:= .bool (!b)) ?_ e2 (by rw [e1];exact .bool _)
    simp [execOp,ho,h3,h2]
theorem ok_unOp {x:Operand} {t:TypeId} {b:Bool} (ho:o.op= .unOp .not t x) (M:Mem F S β hp w) (hx:V S β w (a.eval x) (.bool b)) (hr:(val (.bool (!b)) sc).run (look hp)=some (res,rd)):
  OpOK P F S β hp w a o res:=by
 obtain ⟨h1,h2,_,_⟩:=val_run hr
 generalize hv:a.eval x=v at hx
 cases hx
 refine ok_same M (v:= .bool (!b)) ?_ h2 (by rw [h1];exact .bool _)
 simp [execOp,ho,hv,Op.unary]
theorem ok_makeInterface {x:Operand} {t:TypeId} {X:AV} {d:TypeDesc} (ho:o.op= .makeInterface t x) (M:Mem F S β hp w) (hx:V S β w (a.eval x) X) (hu:P.underlying t=some d) (hd:∀ms,d≠ .interface ms)
  (hr:(val (.iface t X) sc).run (look hp)=some (res,rd)):OpOK P F S β hp w a o res:=by
 obtain ⟨h1,h2,_,_⟩:=val_run hr
 refine ok_same M (v:= .iface t (a.eval x)) ?_ h2 (by rw [h1];exact .iface _ _ _ hx)
 have:(Instr.makeInterface t (a.eval x)).run P w= .ok (.iface t (a.eval x)) w:=by
  cases d<;>first
   |exact absurd rfl (hd _)
   |simp [Instr.makeInterface,run_underlying hu]
 simp [execOp,ho,this]
theorem ok_extract {x:Operand} {i:Nat} {xs:List AV} {X:AV} (ho:o.op= .extract x i) (M:Mem F S β hp w) (hx:V S β w (a.eval x) (.tup xs)) (hX:xs[i]? =some X) (hr:(val X sc).run (look hp)=some (res,rd)):
  OpOK P F S β hp w a o res:=by
 obtain ⟨h1,h2,_,_⟩:=val_run hr
 generalize hv:a.eval x=v at hx
 cases hx with
 |tup vs _ hl h=>
  have hlt:i<xs.length:=(List.getElem?_eq_some_iff.1 hX).1
  have hvi:vs[i]? =some (vs[i]'(by omega)):=List.getElem?_eq_getElem (by omega)
  refine ok_same M (v:=vs[i]'(by omega)) ?_ h2 (by rw [h1];exact h i _ X hvi hX)
  simp [execOp,ho,hv,Instr.extract,hvi]
theorem ok_nilCheck {x:Operand} {X:AV} (hX:(∃i k q,X= .elt i k q)∨∃cs,X= .tptr cs) (ho:o.op= .nilCheck x) (M:Mem F S β hp w) (hx:V S β w (a.eval x) X) (hr:(val X sc).run (look hp)=some (res,rd)):
  OpOK P F S β hp w a o res:=by
 obtain ⟨h1,h2,_,_⟩:=val_run hr
 have hp':∃ad,a.eval x= .pointer (some ad):=by
  generalize a.eval x=v at hx
  rcases hX with ⟨i,k,q,rfl⟩|⟨cs,rfl⟩
  ·cases hx;exact ⟨_,rfl⟩
  ·cases hx;exact ⟨_,rfl⟩
 obtain ⟨ad,hv⟩:=hp'
 refine ok_same M (v:=a.eval x) ?_ h2 (by rw [h1];exact hx)
 simp [execOp,ho,hv]
end
end
section
section
variable {P:Program} {F:Fr} {S:Blk} {β:Beta} {hp:List (Nat×Ob)} {w:World} {a:Act} {o:Oper} {res:Res} {rd:List Nat} {sc:List Dir}
def valOf (g:Bool) (vs:List Value):Value:=if g then .agg vs.toArray else vs.headD undef
def Each (S:Blk) (β:Beta) (w:World) (vs:List Value) (xs:List AV):Prop:=vs.length=xs.length∧∀(i:Nat) v x,vs[i]? =some v→xs[i]? =some x→V S β w v x
theorem Each.take {vs:List Value} {xs:List AV} (h:Each S β w vs xs) (n:Nat):Each S β w (vs.take n) (xs.take n):=by
 refine ⟨by rw [List.length_take,List.length_take,h.1],fun i v x h1 h2=> ?_⟩
 rw [List.getElem?_take] at h1 h2
 split at h1
 ·rename_i hi;rw [if_pos hi] at h2;exact h.2 i v x h1 h2
 ·cases h1
theorem Each.drop {vs:List Value} {xs:List AV} (h:Each S β w vs xs) (n:Nat):Each S β w (vs.drop n) (xs.drop n):=by
 refine ⟨by rw [List.length_drop,List.length_drop,h.1],fun i v x h1 h2=> ?_⟩
 rw [List.getElem?_drop] at h1 h2
 exact h.2 _ v x h1 h2
theorem run_part {t:TypeId} {g:Bool} {n:Nat} (hg:aggA P t=some g) (hn:sizeA P t=some n) (vs:List Value) (k:Nat) (hk:k+n≤vs.length) (h1:g=false→n=1):
  (part t vs.toArray k).run P w= .ok (valOf g ((vs.drop k).take n)) w:=by
 cases g with
 |true=>simp [part,run_isAggA hg,run_sizeOfA hn,valOf,List.extract_eq_take_drop,Nat.add_sub_cancel_left]
 |false=>
  have:=h1 rfl
  subst this
  have hlt:k<vs.length:=by omega
  have e:(vs.drop k).take 1=[vs[k]]:=by rw [List.drop_eq_getElem_cons hlt];rfl
  simp [part,run_isAggA hg,valOf,e,hlt]
theorem drop_of_length {xs xs':List AV} {m k:Nat} (h:xs'=xs.drop k) (hl:xs.length=m+xs'.length) (hk:k≤xs.length):k=m:=by
 have:=congrArg List.length h
 rw [List.length_drop] at this
 omega
theorem eqFs_sound (d e:Nat) (f:TypeId→List AV→List AV→Option (Bool×List AV×List AV))
  (hf:∀(t:TypeId) (xs ys xs' ys':List AV) (r:Bool) (vs us:List Value),f t xs ys=some (r,xs',ys')→Each S β w vs xs→Each S β w us ys→
   ∃m,xs'=xs.drop m∧ys'=ys.drop m∧m≤xs.length∧m≤ys.length∧∀g,aggA P t=some g→(g=false→m=1)→(Op.equalIn e t (valOf g (vs.take m)) (valOf g (us.take m))).run P w= .ok r w):
  ∀(gs:List Field) (n:Nat) (xs ys xs' ys':List AV) (r:Bool) (vs us:List Value),eqFs P f gs n (xs.drop n) (ys.drop n)=some (r,xs',ys')→Each S β w vs xs→Each S β w us ys→n≤xs.length→n≤ys.length→
   ∃m,n≤m∧xs'=xs.drop m∧ys'=ys.drop m∧m≤xs.length∧m≤ys.length∧∀M,m≤M→(Op.eqFields e (vs.take M).toArray (us.take M).toArray gs).run P w= .ok r w
 |[],n,xs,ys,xs',ys',r,vs,us,h,hv,hu,h1,h2=>by
  simp only [eqFs] at h
  injection h with h;injection h with h3 h4;injection h4 with h4 h5
  subst h3;subst h4;subst h5
  exact ⟨n,Nat.le_refl _,rfl,rfl,h1,h2,fun M _=>by simp [Op.eqFields]⟩
 |g::gs,n,xs,ys,xs',ys',r,vs,us,h,hv,hu,h1,h2=>by
  simp only [eqFs] at h
  by_cases hg:g.offset=n∧g.name≠ "_"
  ·rw [if_pos hg] at h
   cases hx:f g.type (xs.drop n) (ys.drop n) with
   |none=>rw [hx] at h;cases h
   |some p=>
    obtain ⟨c,xs1,ys1⟩:=p
    rw [hx] at h
    cases hs:sizeA P g.type with
    |none=>rw [hs] at h;cases h
    |some m=>
     cases ha:aggA P g.type with
     |none=>rw [hs,ha] at h;cases h
     |some b=>
      rw [hs,ha] at h
      simp only at h
      split at h
      ·rename_i hlen
       obtain ⟨l1,l2,l3⟩:=hlen
       cases hq:eqFs P f gs (n+m) xs1 ys1 with
       |none=>rw [hq] at h;cases h
       |some q=>
        obtain ⟨r1,xs2,ys2⟩:=q
        rw [hq] at h
        injection h with h;injection h with h3 h4;injection h4 with h4 h5
        subst h3;subst h4;subst h5
        obtain ⟨k,e1,e2,e3,e4,hrun⟩:=hf _ _ _ _ _ _ _ _ hx (hv.drop n) (hu.drop n)
        have hk:k=m:=drop_of_length e1 l1 e3
        subst hk
        rw [List.length_drop] at e3 e4
        rw [List.drop_drop] at e1 e2
        rw [e1,e2] at hq
        obtain ⟨j,i2,i3,i4,i5,i6,i1⟩:=eqFs_sound d e f hf gs (n+k) xs ys _ _ r1 vs us hq hv hu (by omega) (by omega)
        refine ⟨j,by omega,i3,i4,i5,i6,fun M hM=> ?_⟩
        have hrun:=hrun b ha l3
        have tk:∀(l:List Value),((l.take M).drop n).take k=(l.drop n).take k:=by
         intro l
         rw [List.drop_take,List.take_take,Nat.min_eq_left (by omega)]
        have p1:=run_part (P:=P) (w:=w) ha hs (vs.take M) n (by rw [List.length_take];have:=hv.1;omega) l3
        have p2:=run_part (P:=P) (w:=w) ha hs (us.take M) n (by rw [List.length_take];have:=hu.1;omega) l3
        rw [tk] at p1 p2
        have i1:=i1 M hM
        simp only [Op.eqFields,hg.2,ne_eq,not_false_eq_true,if_true,Sem.run_bind,hg.1,p1,p2,Result.andThen_ok,hrun]
        cases c
        ·simp
        ·simp [i1]
      ·cases h
  ·rw [if_neg hg] at h;cases h
theorem eqTy_sound:∀(d:Nat) (e:Nat),d≤e→∀(t:TypeId) (xs ys xs' ys':List AV) (r:Bool) (vs us:List Value),eqTy P d t xs ys=some (r,xs',ys')→Each S β w vs xs→Each S β w us ys→
   ∃m,xs'=xs.drop m∧ys'=ys.drop m∧m≤xs.length∧m≤ys.length∧∀g,aggA P t=some g→(g=false→m=1)→(Op.equalIn e t (valOf g (vs.take m)) (valOf g (us.take m))).run P w= .ok r w
 |0,_,_,_,_,_,_,_,_,_,_,h,_,_=>by cases h
 |d+1,e,hde,t,xs,ys,xs',ys',r,vs,us,h,hv,hu=>by
  obtain ⟨e,rfl⟩:∃e',e=e'+1:=⟨e-1,by omega⟩
  have heads:∀{x y:AV} {l l':List AV},xs=x::l→ys=y::l'→∃v u,V S β w v x∧V S β w u y∧vs.take 1=[v]∧us.take 1=[u]:=by
   rintro x y l l' rfl rfl
   match vs,us,hv,hu with
   |v::_,u::_,hv,hu=>exact ⟨v,u,hv.2 0 v x rfl rfl,hu.2 0 u y rfl rfl,rfl,rfl⟩
   |[],_,hv,_=>exact absurd hv.1 (by simp)
   |_::_,[],_,hu=>exact absurd hu.1 (by simp)
  unfold eqTy at h
  split at h
  ·rename_i k0 k p l k' q l' hut
   by_cases hk:k=k'
   ·rw [if_pos hk] at h
    subst hk
    injection h with h;injection h with h3 h4;injection h4 with h4 h5
    subst h3;subst h4;subst h5
    obtain ⟨v,u,h1,h2,h3,h4⟩:=heads rfl rfl
    refine ⟨1,rfl,rfl,by simp,by simp,fun g hg _=> ?_⟩
    cases h1;cases h2
    rw [h3,h4]
    have:g=false:=by unfold aggA at hg;rw [hut] at hg;simpa using hg.symm
    subst this
    simp only [valOf,List.headD_cons,Bool.false_eq_true,if_false]
    rw [run_equalIn_int w e t k k0 p q hut]
    rfl
   ·rw [if_neg hk] at h;cases h
  ·rename_i p l q l' hut
   injection h with h;injection h with h3 h4;injection h4 with h4 h5
   subst h3;subst h4;subst h5
   obtain ⟨v,u,h1,h2,h3,h4⟩:=heads rfl rfl
   refine ⟨1,rfl,rfl,by simp,by simp,fun g hg _=> ?_⟩
   cases h1;cases h2
   rw [h3,h4]
   have:g=false:=by unfold aggA at hg;rw [hut] at hg;simpa using hg.symm
   subst this
   simp only [valOf,List.headD_cons,Bool.false_eq_true,if_false]
   rw [run_equalIn_bool' w e t p q hut]
   cases p<;>cases q<;>rfl
  ·rename_i p l q l' hut
   injection h with h;injection h with h3 h4;injection h4 with h4 h5
   subst h3;subst h4;subst h5
   obtain ⟨v,u,h1,h2,h3,h4⟩:=heads rfl rfl
   refine ⟨1,rfl,rfl,by simp,by simp,fun g hg _=> ?_⟩
   cases h1;cases h2
   rw [h3,h4]
   have:g=false:=by unfold aggA at hg;rw [hut] at hg;simpa using hg.symm
   subst this
   simp only [valOf,List.headD_cons,Bool.false_eq_true,if_false]
   rw [run_equalIn_string w e t p q hut,beq_text]
  ·rename_i fields hut
   by_cases hst:P.stoodInHeld t=true
   ·rw [if_pos hst] at h;cases h
   ·rw [if_neg hst] at h
    have hfo:P.fieldsOf t=fields:=by unfold Program.fieldsOf;rw [hut]
    obtain ⟨m,_,i3,i4,i5,i6,i1⟩:=eqFs_sound d e (eqTy P d) (fun t xs ys xs' ys' r vs us h1 h2 h3=>eqTy_sound d e (by omega) t xs ys xs' ys' r vs us h1 h2 h3) fields.toList 0 _ _ xs' ys' r vs us (by simpa using h) hv hu (by omega) (by omega)
    refine ⟨m,i3,i4,i5,i6,fun g hg _=> ?_⟩
    have:g=true:=by unfold aggA at hg;rw [hut] at hg;simpa using hg.symm
    subst this
    simp only [valOf,if_true]
    rw [run_equalIn_struct w e t _ _ (by rw [hfo];exact hut) (by simpa using hst),hfo]
    exact i1 m (Nat.le_refl _)
  ·cases h
theorem ok_eqAgg {op:BinOp} {t ty:TypeId} {x y:Operand} {xs ys:List AV} (ho:o.op= .binOp op t x y ty) (M:Mem F S β hp w) (hx:V S β w (a.eval x) (.agg xs)) (hy:V S β w (a.eval y) (.agg ys))
  (hr:(eqAggA P op t (.agg xs) (.agg ys) sc).run (look hp)=some (res,rd)) (hc:∀c,c∈res.cs→c.p):OpOK P F S β hp w a o res:=by
 simp only [eqAggA] at hr
 by_cases hg:P.eqGuardType P.depth t=false∧aggA P t=some true
 ·rw [if_pos hg] at hr
  cases hq:eqTy P 20 t xs ys with
  |none=>rw [hq] at hr;cases hr
  |some p=>
   obtain ⟨b,l,l'⟩:=p
   rw [hq] at hr
   generalize hvx:a.eval x=vx at hx
   generalize hvy:a.eval y=vy at hy
   cases hx with
   |agg vs _ hl h=>
    cases hy with
    |agg us _ hl' h'=>
     have main:l=[]→l'=[]→(Op.equalIn 10000 t (.agg vs.toArray) (.agg us.toArray)).run P w= .ok b w:=by
      intro e1 e2
      obtain ⟨m,i1,i2,i3,i4,i5⟩:=eqTy_sound (P:=P) (S:=S) (β:=β) (w:=w) 20 10000 (by omega) t xs ys l l' b vs us hq ⟨hl,h⟩ ⟨hl',h'⟩
      have:=i5 true hg.2 (by simp)
      have k1:vs.take m=vs:=List.take_of_length_le (by rw [e1] at i1;have:=congrArg List.length i1;rw [List.length_drop] at this;simp at this;omega)
      have k2:us.take m=us:=List.take_of_length_le (by rw [e2] at i2;have:=congrArg List.length i2;rw [List.length_drop] at this;simp at this;omega)
      rw [k1,k2] at this
      simpa [valOf] using this
     have gd:(eqGuard op t x y (.agg vs.toArray) (.agg us.toArray)).run P w= .ok () w:=run_eqGuard_agg w op t x y _ _ hg.1
     cases l with
     |cons _ _=>simp only at hr;cases hr
     |nil=>
      cases l' with
      |cons _ _=>simp only at hr;cases hr
      |nil=>
       have main:=main rfl rfl
       cases op<;>first
        |(simp only at hr;cases hr;done)
        |(obtain ⟨e1,e2⟩:=truth_run hr hc;refine ok_same M (v:= .bool _) ?_ e2 (by rw [e1];exact .bool _);simp only [execOp,ho,hvx,hvy,Sem.run_bind,gd,Result.andThen_ok,run_eql_struct,run_neq_struct,main,Sem.run_pure])
 ·rw [if_neg hg] at hr;cases hr
end
end
section
section
variable {P:Program} {F:Fr} {S:Blk} {β:Beta} {hp:List (Nat×Ob)} {w:World} {a:Act} {o:Oper} {res:Res} {rd:List Nat} {sc:List Dir}
theorem fold_bytes:∀(l:List UInt8) (s:ByteArray),(l.map fun b=>(b.toNat:Int)).foldl (fun r n=>r.push (UInt8.ofNat n.toNat)) s=⟨s.data++l.toArray⟩
 |[],s=>by simp
 |b::l,s=>by
  simp only [List.map_cons,List.foldl_cons]
  rw [fold_bytes l]
  congr 1
  simp [ByteArray.push]
theorem u8_of {e:TypeId} (h:u8A P e=true):P.underlying e=some (.int .u8):=by
 unfold u8A at h
 split at h
 ·assumption
 ·cases h
theorem ok_bytes {src dst e:TypeId} {x:Operand} {id off len:Nat} (ho:o.op= .convert src dst x) (M:Mem F S β hp w) (hs:P.underlying src=some (.slice e)) (hd:P.underlying dst=some .string) (he:P.underlying e=some (.int .u8))
  (hx:V S β w (a.eval x) (.row id off len)) (hr:(bytesA id off len sc).run (look hp)=some (res,rd)) (hc:∀c,c∈res.cs→c.p):OpOK P F S β hp w a o res:=by
 cases sc with
 |nil=>cases hr
 |cons dd sc'=>
  cases dd with
  |text s=>
   simp only [bytesA,Rd.run] at hr
   cases hl:look hp id with
   |none=>rw [hl] at hr;cases hr
   |some ob=>
    rw [hl] at hr
    have hob:=M.obs id ob hl
    cases ob with
    |row sz es=>
     simp only at hr
     by_cases hsz:sz=1
     ·rw [if_pos hsz] at hr
      simp only [valIf,Rd.run] at hr
      injection hr with hr;injection hr with hr _;subst hr
      obtain ⟨rfl,hlen,htake⟩:=hc _ (List.mem_singleton.2 rfl)
      generalize hv:a.eval x=v at hx
      cases hx with
      |row _ _ _ ad bi hb hle ha=>
       obtain ⟨bj,e1,e2,cur,ty,h1,h2,h3,h4,h5,h6⟩:=hob
       rw [hb] at e1;injection e1 with e1;subst e1
       rw [hsz] at e2
       rw [e2] at h2 h5 h6
       have hcells:∀(j:Nat) v,(s.data.toList.map fun b=>Value.int .u8 (b.toNat:Int))[j]? =some v→w.cell? ⟨bi.blk,0+j,none⟩=some v:=by
        intro j v hj
        have hjl:j<len:=by have:=(List.getElem?_eq_some_iff.1 hj).1;rw [hlen];simpa using this
        have hje:es[j]? =(s.data.toList.map fun b=>AV.int .u8 (b.toNat:Int))[j]? :=by rw [←htake,List.getElem?_take,if_pos hjl]
        rw [List.getElem?_map] at hje hj
        cases hb2:s.data.toList[j]? with
        |none=>rw [hb2] at hj;cases hj
        |some b2=>
         rw [hb2] at hje hj
         injection hj with hj
         subst hj
         obtain ⟨u,hu,hV⟩:=h6 j 0 (.int .u8 b2.toNat) (.int .u8 b2.toNat) hje rfl
         cases hV
         rw [cell_row h1,Nat.zero_add]
         simpa using hu
       have hload:=run_loadCellsA (P:=P) (w:=w) bi.blk 0 _ hcells
       rw [List.length_map] at hload
       have hsl:s.data.toList.length=len:=by rw [hlen];simp
       rw [hsl] at hload
       have had:0<len→ad=⟨bi.blk,0,none⟩:=fun h=>by have:=ha (by omega);simpa using this
       have hconv:(Conv.bytesToString (.slice (some ad) len (bi.cap-0))).run P w= .ok (.string s) w:=by
        by_cases h0:0<len
        ·rw [had h0]
         have:=run_bytesToString (P:=P) w ⟨bi.blk,0,none⟩ len (bi.cap-0) (s.data.toList.map fun b=>(b.toNat:Int)) (by rw [hload];simp)
         rw [this,fold_bytes]
         congr 2
         simp
        ·have h0':len=0:=by omega
         subst h0'
         have hnil:s.data.toList=[]:=List.eq_nil_of_length_eq_zero hsl
         have hsn:s=ByteArray.empty:=by
          obtain ⟨⟨l⟩⟩:=s
          simp only at hnil
          subst hnil
          rfl
         have hz:∀(b:Addr),(loadCells b 0).run P w= .ok #[] w:=fun b=>by simp [loadCells,loadCellsFrom]
         have:=run_bytesToString (P:=P) w ad 0 (bi.cap-0) [] (by rw [hz];rfl)
         rw [this,hsn]
         rfl
       rw [Nat.sub_zero] at hconv hv
       refine ok_same M (v:= .string s) ?_ rfl (.str _)
       simp [execOp,ho,hv,convert,run_underlying hs,run_underlying hd,run_underlying he,hconv]
     ·rw [if_neg hsz] at hr;cases hr
    |_=>cases hr
  |_=>cases hr
theorem ok_toBytes {src dst e:TypeId} {x:Operand} {s:ByteArray} (ho:o.op= .convert src dst x) (M:Mem F S β hp w) (hs:P.underlying src=some .string) (hd:P.underlying dst=some (.slice e)) (he:P.underlying e=some (.int .u8))
  (hx:V S β w (a.eval x) (.str s)) (hr:(valIf (.seq (s.data.toList.map fun b=> .int .u8 b.toNat) false) (s.size≤maxLen) sc).run (look hp)=some (res,rd)) (hc:∀c,c∈res.cs→c.p):OpOK P F S β hp w a o res:=by
 generalize hv:a.eval x=v at hx
 cases hx
 obtain ⟨e1,e2,_,e4⟩:=valIf_run hr
 have hmax:=hc _ (by rw [e4];exact List.mem_singleton.2 rfl)
 simp only [] at hmax
 have hge:=grownCap_ge w s.size 0 e
 have hcm:grownCap w s.size 0 e≤maxLen:=grownCap_le_maxLen w _ 0 e hmax
 have M0:Mem F S β hp w.drew:=M.heapEq rfl rfl rfl rfl
 have E0:Ext S S β β w w.drew:=⟨fun _ h=>h,fun _ _ h=>h,fun _ _=>rfl⟩
 obtain ⟨E1,M1⟩:=M0.lay (.cells (bytesRow s (grownCap w s.size 0 e)) e ((bytesRow s (grownCap w s.size 0 e)).size,(bytesRow s (grownCap w s.size 0 e)).size+1))
 refine ok_value (v:= .slice (some ⟨w.heap.size,0,none⟩) s.size (grownCap w s.size 0 e)) ?_ (E0.trans E1) (by rw [e2];exact M1) ?_
 ·simp [execOp,ho,hv,run_bytes_of_string w src dst e s hs hd he]
 ·rw [e1]
  have hlen:s.size=(s.data.toList.map fun b=>AV.int .u8 b.toNat).length:=by simp
  have hcell:∀(i:Nat) (b:UInt8),s.data.toList[i]? =some b→(w.drew.alloc (.cells (bytesRow s (grownCap w s.size 0 e)) e ((bytesRow s (grownCap w s.size 0 e)).size,(bytesRow s (grownCap w s.size 0 e)).size+1))).cell? ⟨w.heap.size,i,none⟩=some (.int .u8 b.toNat):=by
   intro i b hb
   have hb':s.data[i]? =some b:=by simpa using hb
   have hh:(w.drew.alloc (.cells (bytesRow s (grownCap w s.size 0 e)) e ((bytesRow s (grownCap w s.size 0 e)).size,(bytesRow s (grownCap w s.size 0 e)).size+1))).heap[w.heap.size]? =some (.cells (bytesRow s (grownCap w s.size 0 e)) e ((bytesRow s (grownCap w s.size 0 e)).size,(bytesRow s (grownCap w s.size 0 e)).size+1)):=by
    show (w.heap.push _)[w.heap.size]? =_
    simp
   rw [cell_row hh]
   unfold bytesRow
   have hi:i<s.data.size:=(Array.getElem?_eq_some_iff.1 hb').1
   rw [Array.getElem?_append_left (by simpa using hi)]
   simp [hb']
  have:=V.seq (S:=fun b=>S b∨b=w.heap.size) (β:=β) (w:=(w.drew.alloc (.cells (bytesRow s (grownCap w s.size 0 e)) e ((bytesRow s (grownCap w s.size 0 e)).size,(bytesRow s (grownCap w s.size 0 e)).size+1)))) (some ⟨w.heap.size,0,none⟩) (grownCap w s.size 0 e) 1 w.heap.size 0 (s.data.toList.map fun b=>AV.int .u8 b.toNat) false
   (fun i _=>((s.data.toList.map fun b=>Value.int .u8 b.toNat)[i]?).getD undef) (by rw [←hlen];exact hge) hcm (fun h=>by cases h) (fun _=>⟨rfl,.inr rfl⟩) (fun i e he=> ?_) (fun i j e c h1 h2=> ?_) (fun i j e c h1 h2=> ?_)
  ·rw [←hlen] at this;exact this
  ·rw [List.getElem?_map] at he
   obtain ⟨b,hb,rfl⟩:=Option.map_eq_some_iff.1 he
   rfl
  ·rw [List.getElem?_map] at h1
   obtain ⟨b,hb,rfl⟩:=Option.map_eq_some_iff.1 h1
   cases j with
   |succ j=>simp [AV.cells] at h2
   |zero=>
    have:=hcell i b hb
    simp only [Nat.zero_add,Nat.mul_one,Nat.add_zero,List.getElem?_map,hb,Option.map_some,Option.getD_some]
    exact this
  ·rw [List.getElem?_map] at h1
   obtain ⟨b,hb,rfl⟩:=Option.map_eq_some_iff.1 h1
   cases j with
   |succ j=>simp [AV.cells] at h2
   |zero=>
    simp [AV.cells] at h2
    subst h2
    simp only [List.getElem?_map,hb,Option.map_some,Option.getD_some]
    exact .int _ _
theorem ok_convert {src dst:TypeId} {x:Operand} {X:AV} (ho:o.op= .convert src dst x) (M:Mem F S β hp w) (hx:V S β w (a.eval x) X) (hr:(convertA P src dst X sc).run (look hp)=some (res,rd)) (hc:∀c,c∈res.cs→c.p):
  OpOK P F S β hp w a o res:=by
 unfold convertA at hr
 split at hr
 ·rename_i k0 k k1 n hs hd
  generalize hv:a.eval x=v at hx
  cases hx
  obtain ⟨e1,e2,_,e4⟩:=valIf_run hr
  have hw:=hc _ (by rw [e4];exact List.mem_singleton.2 rfl)
  simp only [] at hw
  refine ok_same M (v:= .int k n) ?_ e2 (by rw [e1];exact .int _ _)
  simp [execOp,ho,hv,convert,run_underlying hs,run_underlying hd,Conv.intToInt,hw]
 ·rename_i s hs hd
  generalize hv:a.eval x=v at hx
  cases hx
  obtain ⟨e1,e2,_,_⟩:=val_run hr
  refine ok_same M (v:= .string s) ?_ e2 (by rw [e1];exact .str _)
  simp [execOp,ho,hv,convert,run_underlying hs,run_underlying hd]
 ·rename_i e id off len hs hd
  by_cases he:u8A P e=true
  ·rw [if_pos he] at hr
   exact ok_bytes ho M hs hd (u8_of he) hx hr hc
  ·rw [if_neg he] at hr;cases hr
 ·rename_i e s hs hd
  by_cases he:u8A P e=true
  ·rw [if_pos he] at hr
   exact ok_toBytes ho M hs hd (u8_of he) hx hr hc
  ·rw [if_neg he] at hr;cases hr
 ·cases hr
end
end
section
section
variable {P:Program} {F:Fr} {S:Blk} {β:Beta} {hp:List (Nat×Ob)} {w:World} {a:Act} {o:Oper} {res:Res} {rd:List Nat} {sc:List Dir}
theorem ok_field {s:TypeId} {x:Operand} {f:Nat} {X:AV} (ho:o.op= .field s x f) (M:Mem F S β hp w) (hx:V S β w (a.eval x) X) (hr:(fieldA P s f X sc).run (look hp)=some (res,rd)):
  OpOK P F S β hp w a o res:=by
 unfold fieldA at hr
 split at hr
 ·rename_i fields cs hu
  cases hf:fields[f]? with
  |none=>rw [hf] at hr;cases hr
  |some g=>
   rw [hf] at hr
   simp only at hr
   cases hq:readA P g.type (cs.drop g.offset) with
   |none=>rw [hq] at hr;cases hr
   |some y=>
    rw [hq] at hr
    obtain ⟨e1,e2,_,_⟩:=val_run hr
    generalize hv:a.eval x=v at hx
    cases hx with
    |agg vs _ hl h=>
     have hpart:∃u,(part g.type vs.toArray g.offset).run P w= .ok u w∧V S β w u y:=by
      unfold readA at hq
      cases ha:aggA P g.type with
      |none=>rw [ha] at hq;simp at hq
      |some b=>
       cases hs:sizeA P g.type with
       |none=>rw [ha,hs] at hq;cases b<;>simp at hq
       |some n=>
        rw [ha,hs] at hq
        cases b with
        |true=>
         simp only at hq
         split at hq
         ·rename_i hle
          injection hq with hq
          subst hq
          rw [List.length_drop] at hle
          refine ⟨.agg ((vs.drop g.offset).take n).toArray,?_,?_⟩
          ·simp [part,run_isAggA ha,run_sizeOfA hs,List.extract_eq_take_drop,Nat.add_sub_cancel_left]
          ·have E:Each S β w vs cs:=⟨hl,h⟩
           have E2:=(E.drop g.offset).take n
           exact .agg _ _ E2.1 E2.2
         ·cases hq
        |false=>
         simp only at hq
         have h0:cs[g.offset]? =some y:=by
          have:(cs.drop g.offset)[0]? =some y:=by rw [←List.head?_eq_getElem?];exact hq
          rw [List.getElem?_drop] at this
          simpa using this
         have hlt:g.offset<cs.length:=(List.getElem?_eq_some_iff.1 h0).1
         have hvv:vs[g.offset]? =some (vs[g.offset]'(by omega)):=List.getElem?_eq_getElem (by omega)
         refine ⟨vs[g.offset]'(by omega),?_,h _ _ _ hvv h0⟩
         simp [part,run_isAggA ha,hvv]
     obtain ⟨u,h1,h2⟩:=hpart
     refine ok_same M (v:=u) ?_ e2 (by rw [e1];exact h2)
     simp [execOp,ho,hv,Instr.field,run_underlying hu,hf,asAgg,h1]
 ·cases hr
theorem Each.split {vs:List Value} {xs ys:List AV} (h:Each S β w vs (xs++ys)):Each S β w (vs.take xs.length) xs∧Each S β w (vs.drop xs.length) ys:=by
 have h1:=h.take xs.length
 have h2:=h.drop xs.length
 rw [List.take_left] at h1
 rw [List.drop_left] at h2
 exact ⟨h1,h2⟩
theorem ok_makeFunc {f:FuncId} {first cap:Array Operand} {xs:List AV} (ho:o.op= .makeFunc (.func f) first cap) (M:Mem F S β hp w)
  (hx:Each S β w ((first++cap).toList.map a.eval) xs) (hr:(val (.clo f (xs.take first.size) (xs.drop first.size)) sc).run (look hp)=some (res,rd)):
  OpOK P F S β hp w a o res:=by
 obtain ⟨e1,e2,_,_⟩:=val_run hr
 refine ok_same M (v:= .func (.func f) (first.map a.eval) (cap.map a.eval)) ?_ e2 ?_
 ·simp [execOp,ho,Instr.makeFunc]
 ·rw [e1]
  have h1:=hx.take first.size
  have h2:=hx.drop first.size
  have q1:((first++cap).toList.map a.eval).take first.size=(first.map a.eval).toList:=by
   simp only [Array.toList_append,List.map_append,Array.toList_map]
   exact List.take_left' (by simp)
  have q2:((first++cap).toList.map a.eval).drop first.size=(cap.map a.eval).toList:=by
   simp only [Array.toList_append,List.map_append,Array.toList_map]
   exact List.drop_left' (by simp)
  rw [q1] at h1
  rw [q2] at h2
  have:=V.clo (S:=S) (β:=β) (w:=w) f _ _ _ _ h1.1 h2.1 h1.2 h2.2
  rw [Array.toArray_toList,Array.toArray_toList] at this
  exact this
theorem ok_len {t ty:TypeId} {x:Operand} {X:AV} (ho:o.op= .call ⟨.builtin .len,#[x],#[t]⟩) (M:Mem F S β hp w) (hx:V S β w (a.eval x) X) (hr:(lenA P t X sc).run (look hp)=some (res,rd)):
  OpOK P F S β hp w a o res:=by
 unfold lenA at hr
 generalize hv:a.eval x=v at hx
 split at hr
 ·rename_i e es clip hu
  obtain ⟨e1,e2,_,_⟩:=val_run hr
  cases hx with
  |seq p cap sz b o2 _ _ U hcap hmax hclip hp' hsz hcc hvv=>
   refine ok_same M (v:= .int .i64 es.length) ?_ e2 (by rw [e1];exact .int _ _)
   simp [execOp,ho,resolve,invoke,builtin,hv,Builtin.len_,run_underlying hu,goInt]
 ·rename_i e id off n hu
  obtain ⟨e1,e2,_,_⟩:=val_run hr
  cases hx with
  |row _ _ _ ad bi hb hle ha=>
   refine ok_same M (v:= .int .i64 n) ?_ e2 (by rw [e1];exact .int _ _)
   simp [execOp,ho,resolve,invoke,builtin,hv,Builtin.len_,run_underlying hu,goInt]
 ·rename_i e sz es hu
  obtain ⟨e1,e2,_,_⟩:=val_run hr
  cases hx with
  |own p cap _ _=>
   refine ok_same M (v:= .int .i64 es.length) ?_ e2 (by rw [e1];exact .int _ _)
   simp [execOp,ho,resolve,invoke,builtin,hv,Builtin.len_,run_underlying hu,goInt]
 ·rename_i s hu
  obtain ⟨e1,e2,_,_⟩:=val_run hr
  cases hx
  refine ok_same M (v:= .int .i64 s.size) ?_ e2 (by rw [e1];exact .int _ _)
  simp [execOp,ho,resolve,invoke,builtin,hv,Builtin.len_,run_underlying hu,goInt]
 ·cases hr
theorem zips_run:∀(ids:List Nat) (k:List (Nat×Ob)→Rd Res) {res:Res} {rd:List Nat},(zips ids k).run (look hp)=some (res,rd)→∃pre rd',pre.map (·.1)=ids∧(∀id o,(id,o)∈pre→look hp id=some o)∧(k pre).run (look hp)=some (res,rd')
 |[],k,res,rd,h=>⟨[],rd,rfl,by simp,h⟩
 |id::ids,k,res,rd,h=>by
  simp only [zips,Rd.run] at h
  cases hl:look hp id with
  |none=>rw [hl] at h;cases h
  |some ob=>
   rw [hl] at h
   cases hq:(zips ids fun l=>k ((id,ob)::l)).run (look hp) with
   |none=>simp only [hq] at h;cases h
   |some p=>
    obtain ⟨r1,l1⟩:=p
    simp only [hq] at h
    injection h with h;injection h with h1 h2
    subst h1
    obtain ⟨pre,rd',i1,i2,i3⟩:=zips_run ids _ hq
    refine ⟨(id,ob)::pre,rd',by simp [i1],fun j o hj=> ?_,i3⟩
    rcases List.mem_cons.1 hj with e|hj
    ·injection e with e1 e2;subst e1;subst e2;exact hl
    ·exact i2 j o hj
theorem ok_call {x:Operand} {args:Array Operand} {ts:Array TypeId} {f:AV} {xs:List AV} (ho:o.op= .call ⟨.value x,args,ts⟩) (M:Mem F S β hp w) (hf:V S β w (a.eval x) f) (hx:Each S β w (args.toList.map a.eval) xs)
  (hr:(callA P f xs sc).run (look hp)=some (res,rd)) (hc:∀c,c∈res.cs→c.p) (hn:∀id,id∈res.new→look hp id=none):OpOK P F S β hp w a o res:=by
 cases f with
 |clo g first cap=>
  cases sc with
  |nil=>cases hr
  |cons dd sc'=>
   cases dd with
   |call r ids upd=>
    simp only [callA] at hr
    cases hfn:P.funcs[g]? with
    |none=>rw [hfn] at hr;cases hr
    |some fn=>
     rw [hfn] at hr
     simp only at hr
     by_cases hb:fn.body.isSome∧fn.name≠ "runtime.NumGoroutine"
     ·rw [if_pos hb] at hr
      obtain ⟨pre,rd',i1,i2,i3⟩:=zips_run ids _ hr
      injection i3 with i3;injection i3 with i3 _;subst i3
      have hspec:Spec P g (first++xs++cap) pre r upd:=hc _ (List.mem_singleton.2 rfl)
      generalize hv:a.eval x=v at hf
      cases hf with
      |clo _ fs gs _ _ h1 h2 h3 h4=>
       intro K Q hK
       have hbody:fn.body.isNone=false:=by cases h:fn.body<;>simp [h] at hb⊢
       have hrun:(execOp a.eval o).run P w= .ok (.enter g (fs.toArray++(args.map a.eval)++gs.toArray)) w:=by
        have hname:¬fn.name= "runtime.NumGoroutine" :=hb.2
        have hbody2:¬fn.body=none:=by intro h;rw [h] at hbody;cases hbody
        simp [execOp,ho,resolve,Deferred.ofValue,hv,invoke,callFunc,run_program,hfn,hname,hbody2]
       rw [hrun]
       simp only [Oper.upon]
       have hargs:fs.toArray++(args.map a.eval)++gs.toArray=(fs++args.toList.map a.eval++gs).toArray:=by
        apply Array.toList_inj.1;simp
       rw [hargs]
       have hlen:(fs++args.toList.map a.eval++gs).length=(first++xs++cap).length:=by
        have:=hx.1
        simp only [List.length_append]
        omega
       have hV:∀(i:Nat) v x,(fs++args.toList.map a.eval++gs)[i]? =some v→(first++xs++cap)[i]? =some x→V S β w v x:=by
        intro i v y hi hj
        have hx1:=hx.1
        by_cases c1:i<fs.length
        ·rw [List.append_assoc,List.getElem?_append_left c1] at hi
         rw [List.append_assoc,List.getElem?_append_left (by omega)] at hj
         exact h3 i v y hi hj
        ·by_cases c2:i<fs.length+(args.toList.map a.eval).length
         ·rw [List.getElem?_append_left (by rw [List.length_append];exact c2),List.getElem?_append_right (by omega)] at hi
          rw [List.getElem?_append_left (by rw [List.length_append];omega),List.getElem?_append_right (by omega),←h1] at hj
          exact hx.2 _ v y hi hj
         ·rw [List.getElem?_append_right (by rw [List.length_append];omega),List.length_append] at hi
          rw [List.getElem?_append_right (by rw [List.length_append];omega),List.length_append,←h1,←hx1] at hj
          exact h4 _ v y hi hj
       refine (hspec F S β hp w _ M hlen hV i2 (fun id ob h1 h2=>hn id ?_)).mono ?_
       ·refine List.mem_filter.2 ⟨List.mem_map.2 ⟨(id,ob),h1,rfl⟩,?_⟩
        rw [←i1]
        simp only [Bool.not_eq_true',List.contains_eq_mem,decide_eq_false_iff_not,List.mem_map,not_exists,not_and]
        rintro ⟨j,o'⟩ hj rfl
        exact h2 o' hj
       ·rintro e w' ⟨v,S',β',rfl,E,M',hv'⟩
        exact hK v w' S' β' E M' hv'
     ·rw [if_neg hb] at hr;cases hr
   |_=>cases hr
 |_=>cases hr
theorem new_var {d:Nat} {X:AV} {v:Value} {t:TypeId} (M:Mem F S β hp w) (hd:look hp d=none) (hv:V S β w v X) (hX:isDead X=false) (hno:hasOwn X.cells=false):
  ∃S' β',Ext S S' β β' w (w.alloc (.cells v.cells t))∧Mem F S' β' (putL hp d (.var X.cells)) (w.alloc (.cells v.cells t))∧V S' β' (w.alloc (.cells v.cells t)) (.pointer (some ⟨w.heap.size,0,none⟩)) (.elt d 0 0):=by
 have hne:X≠ .dead:=by rintro rfl;cases hX
 obtain ⟨h1,h2⟩:=hv.cells hne
 have hsz:X.cells.length=v.cells.size:=h1.symm
 have hob:HO S (β.add d ⟨w.heap.size,X.cells.length,1⟩) (w.alloc (.cells v.cells t)) d (.var X.cells):=by
  refine ⟨_,Beta.add_same _ _ _,rfl,v.cells,t,heap_alloc_new w _,by simp [hsz],by simp,by simp [maxLen],fun i e he=> ?_,fun i j e c he hc=> ?_⟩
  ·cases i with
   |zero=>simp at he;subst he;rfl
   |succ i=>simp at he
  ·cases i with
   |zero=>
    simp at he
    subst he
    obtain ⟨u,hu,hV⟩:=h2 j c hc
    refine ⟨u,by simpa using hu,hV.mono (fun _ h=>h) (Beta.add_ext (M.beta_none hd)) (fun b hb=>heap_alloc_old w _ (M.sub b hb))⟩
   |succ i=>simp at he
 obtain ⟨E,M'⟩:=M.alloc hd (.cells v.cells t) (.var X.cells) (fun j sz es=>hasOwn_at hno) X.cells.length 1 hob
 refine ⟨S,_,E,M',?_⟩
 have:=V.elt (S:=S) (β:=β.add d ⟨w.heap.size,X.cells.length,1⟩) (w:=w.alloc (.cells v.cells t)) d 0 0 _ (Beta.add_same _ _ _)
 simpa using this
theorem newVar_run {d:Nat} {X:AV} (h:(newVar d X sc).run (look hp)=some (res,rd)):res.v= .elt d 0 0∧res.upd=[(d,.var X.cells)]∧res.new=[d]∧hasOwn X.cells=false:=by
 unfold newVar at h
 by_cases hb:hasOwn X.cells=true
 ·rw [if_pos hb] at h;cases h
 ·rw [if_neg hb] at h
  injection h with h;injection h with h _;subst h;exact ⟨rfl,rfl,rfl,by simpa using hb⟩
theorem ok_box {t:TypeId} {x:Operand} {d:Nat} {X:AV} (ho:o.op= .box t x) (M:Mem F S β hp w) (hx:V S β w (a.eval x) X) (hX:isDead X=false) (hr:(newVar d X sc).run (look hp)=some (res,rd))
  (hn:∀id,id∈res.new→look hp id=none):OpOK P F S β hp w a o res:=by
 obtain ⟨e1,e2,e3,e4⟩:=newVar_run hr
 obtain ⟨S',β',E,M',hv⟩:=new_var (t:=t) M (hn d (by rw [e3];simp)) hx hX e4
 refine ok_value (v:= .pointer (some ⟨w.heap.size,0,none⟩)) (w':=w.alloc (.cells (a.eval x).cells t)) ?_ E (by rw [e2];exact M') (by rw [e1];exact hv)
 simp [execOp,ho,Instr.box,Go.newVar,newRow]
theorem zero_of {t:TypeId} {z:AV} (h:zeroA P t=some z):∃v,(zeroValue t).run P w= .ok v w∧V S β w v z∧∃i,P.info? t=some i∧i.zero=some v:=by
 unfold zeroA at h
 obtain ⟨v,hv,rfl⟩:=Option.map_eq_some_iff.1 h
 obtain ⟨i,hi,hz⟩:=Option.bind_eq_some_iff.1 hv
 exact ⟨v,by simp [zeroValue,typeInfo,hi,hz],constA_sound v,i,hi,hz⟩
theorem ok_alloc {t:TypeId} {d:Nat} {X:AV} (ho:o.op= .alloc t) (M:Mem F S β hp w) (hz:zeroA P t=some X) (hX:isDead X=false) (hr:(newVar d X sc).run (look hp)=some (res,rd))
  (hn:∀id,id∈res.new→look hp id=none):OpOK P F S β hp w a o res:=by
 obtain ⟨e1,e2,e3,e4⟩:=newVar_run hr
 obtain ⟨v,hrun,hv,_⟩:=zero_of (S:=S) (β:=β) (w:=w) hz
 obtain ⟨S',β',E,M',hv⟩:=new_var (t:=t) M (hn d (by rw [e3];simp)) hv hX e4
 refine ok_value (v:= .pointer (some ⟨w.heap.size,0,none⟩)) (w':=w.alloc (.cells v.cells t)) ?_ E (by rw [e2];exact M') (by rw [e1];exact hv)
 simp [execOp,ho,Instr.alloc,hrun,Go.newVar,newRow]
end
end
section
section
variable {P:Program} {F:Fr} {S:Blk} {β:Beta} {hp:List (Nat×Ob)} {w:World} {a:Act} {o:Oper} {res:Res} {rd:List Nat} {sc:List Dir}
theorem over_get {α:Type} (cs xs:List α) (off j:Nat) (h:off+xs.length≤cs.length):
  (cs.take off++xs++cs.drop (off+xs.length))[j]? =if j<off then cs[j]? else if j<off+xs.length then xs[j-off]? else cs[j]? :=by
 have ht:(cs.take off).length=off:=by rw [List.length_take];omega
 by_cases h1:j<off
 ·rw [if_pos h1,List.append_assoc,List.getElem?_append_left (by omega),List.getElem?_take,if_pos h1]
 ·rw [if_neg h1]
  by_cases h2:j<off+xs.length
  ·rw [if_pos h2,List.getElem?_append_left (by rw [List.length_append];omega),List.getElem?_append_right (by omega),ht]
  ·rw [if_neg h2,List.getElem?_append_right (by rw [List.length_append];omega),List.length_append,ht,List.getElem?_drop]
   congr 1
   omega
theorem setRow_turns (g:Nat) (cur:Array Value) {bi:Bl} (h:bi.blk=g):Turns bi w (w.setRow g cur):=by
 refine ⟨rfl,rfl,rfl,by simp,fun b hb hne=> ?_⟩
 simp only [World.setRow,Array.getElem?_modify]
 rw [if_neg (by omega)]
theorem solid_one {v:Value} {c:AV} (h:V S β w v c) (hs:solid c=true):v.oneCell'=true:=by
 cases h<;>first
  |rfl
  |(cases hs;done)
theorem HR.over {bi:Bl} {es:List AV} (h:HR S β w bi es) (hS:¬S bi.blk) {k off:Nat} {e e':AV} (he:es[k]? =some e) {vs:List Value} {xs:List AV} (hx:Each S β w vs xs) (hs:∀c,c∈xs→solid c=true)
  (hl:off+xs.length≤e.cells.length) (he':e'.cells=overA e.cells off xs):
  ∃cur',(storeCells ⟨bi.blk,k*bi.sz+off,none⟩ vs).run P w= .ok () (w.setRow bi.blk cur')∧HR S β (w.setRow bi.blk cur') bi (es.set k e')∧∀m,m<k*bi.sz+off∨k*bi.sz+off+xs.length≤m→slotV (w.setRow bi.blk cur') bi.blk m=slotV w bi.blk m:=by
 obtain ⟨cur,t,h1,h2,h3,h4,h5,h6⟩:=h
 have hsz:e.cells.length=bi.sz:=h5 k e he
 have hk:k<es.length:=(List.getElem?_eq_some_iff.1 he).1
 have hkc:k+1≤bi.cap:=by omega
 have hmul:k*bi.sz+bi.sz≤cur.size:=by
  rw [h2]
  have:=Nat.mul_le_mul_right bi.sz hkc
  rw [Nat.add_mul,Nat.one_mul] at this
  exact this
 have hvl:vs.length=xs.length:=hx.1
 have hfit:k*bi.sz+off+vs.length≤cur.size:=by omega
 have h1c:∀v,v∈vs→v.oneCell'=true:=by
  intro v hv
  obtain ⟨i,hi⟩:=List.mem_iff_getElem?.1 hv
  have hilt:i<vs.length:=(List.getElem?_eq_some_iff.1 hi).1
  have hxi:xs[i]? =some (xs[i]'(by omega)):=List.getElem?_eq_getElem (by omega)
  exact solid_one (hx.2 i v _ hi hxi) (hs _ (List.mem_of_getElem? hxi))
 have hget0:∀m,(cur.toList.take (k*bi.sz+off)++vs++cur.toList.drop (k*bi.sz+off+vs.length)).toArray[m]? =if m<k*bi.sz+off then cur[m]? else if m<k*bi.sz+off+vs.length then vs[m-(k*bi.sz+off)]? else cur[m]? :=by
  intro m
  have:=over_get cur.toList vs (k*bi.sz+off) m (by simpa using hfit)
  simpa using this
 refine ⟨(cur.toList.take (k*bi.sz+off)++vs++cur.toList.drop (k*bi.sz+off+vs.length)).toArray,?_,?_,fun m hm=> ?_⟩
 ·have:=run_storeCells_at P bi.blk (k*bi.sz+off) t vs 0 cur w h1 (by simpa using hfit) h1c
  simpa using this
 ·have hg':(w.setRow bi.blk (cur.toList.take (k*bi.sz+off)++vs++cur.toList.drop (k*bi.sz+off+vs.length)).toArray).heap[bi.blk]? =some (.cells (cur.toList.take (k*bi.sz+off)++vs++cur.toList.drop (k*bi.sz+off+vs.length)).toArray t (0,0)):=
   setRow_heap w bi.blk cur _ t (0,0) h1
  have hagr:Agr S w (w.setRow bi.blk (cur.toList.take (k*bi.sz+off)++vs++cur.toList.drop (k*bi.sz+off+vs.length)).toArray):=by
   intro b hb
   simp only [World.setRow,Array.getElem?_modify]
   rw [if_neg (by rintro rfl;exact hS hb)]
  have hel:e'.cells.length=bi.sz:=by
   rw [he',overA]
   simp only [List.length_append,List.length_take,List.length_drop]
   omega
  refine ⟨_,t,hg',?_,by simpa using h3,h4,fun i x hx'=> ?_,fun i j x c hx' hc=> ?_⟩
  ·simp only [List.size_toArray,List.length_append,List.length_take,List.length_drop,Array.length_toList]
   rw [←h2]
   omega
  ·rw [List.getElem?_set] at hx'
   split at hx'
   ·first|(rw [if_pos hk] at hx';injection hx' with hx';subst hx';exact hel)|(injection hx' with hx';subst hx';exact hel)
   ·exact h5 i x hx'
  ·have hget:∀m,(cur.toList.take (k*bi.sz+off)++vs++cur.toList.drop (k*bi.sz+off+vs.length)).toArray[m]? =if m<k*bi.sz+off then cur[m]? else if m<k*bi.sz+off+vs.length then vs[m-(k*bi.sz+off)]? else cur[m]? :=by
    intro m
    have:=over_get cur.toList vs (k*bi.sz+off) m (by simpa using hfit)
    simpa using this
   rw [List.getElem?_set] at hx'
   by_cases hki:k=i
   ·subst hki
    rw [if_pos rfl,if_pos hk] at hx'
    injection hx' with hx'
    subst hx'
    rw [he',overA,over_get _ _ _ _ hl] at hc
    by_cases c1:j<off
    ·rw [if_pos c1] at hc
     obtain ⟨u,hu,hV⟩:=h6 k j e c he hc
     exact ⟨u,by rw [hget,if_pos (by omega)];exact hu,hV.mono (fun _ h=>h) (fun _ _ h=>h) hagr⟩
    ·rw [if_neg c1] at hc
     by_cases c2:j<off+xs.length
     ·rw [if_pos c2] at hc
      have hvj:vs[j-off]? =some (vs[j-off]'(by omega)):=List.getElem?_eq_getElem (by omega)
      refine ⟨_,?_,(hx.2 _ _ c hvj hc).mono (fun _ h=>h) (fun _ _ h=>h) hagr⟩
      rw [hget,if_neg (by omega),if_pos (by omega),←hvj]
      congr 1
      omega
     ·rw [if_neg c2] at hc
      obtain ⟨u,hu,hV⟩:=h6 k j e c he hc
      exact ⟨u,by rw [hget,if_neg (by omega),if_neg (by omega)];exact hu,hV.mono (fun _ h=>h) (fun _ _ h=>h) hagr⟩
   ·rw [if_neg hki] at hx'
    obtain ⟨u,hu,hV⟩:=h6 i j x c hx' hc
    have hxl:=h5 i x hx'
    have hjl:j<bi.sz:=by have:=(List.getElem?_eq_some_iff.1 hc).1;omega
    refine ⟨u,?_,hV.mono (fun _ h=>h) (fun _ _ h=>h) hagr⟩
    rw [hget,←hu]
    by_cases c1:i*bi.sz+j<k*bi.sz+off
    ·rw [if_pos c1]
    ·rw [if_neg c1,if_neg]
     intro c2
     rcases Nat.lt_or_gt_of_ne hki with h|h
     ·have:=Nat.mul_le_mul_right bi.sz (show k+1≤i by omega)
      rw [Nat.add_mul,Nat.one_mul] at this
      omega
     ·have:=Nat.mul_le_mul_right bi.sz (show i+1≤k by omega)
      rw [Nat.add_mul,Nat.one_mul] at this
      omega
 ·unfold slotV
  rw [setRow_heap w bi.blk cur _ t (0,0) h1,h1]
  simp only []
  rw [hget0]
  rcases hm with hm|hm
  ·rw [if_pos hm]
  ·rw [if_neg (by omega),if_neg (by omega)]
theorem each_of_V {v:Value} {x:AV} (h:V S β w v x) (hx:x≠ .dead):Each S β w v.cells.toList x.cells:=by
 obtain ⟨h1,h2⟩:=h.cells hx
 refine ⟨by simpa using h1,fun i u c hi hc=> ?_⟩
 obtain ⟨u',hu',hV⟩:=h2 i c hc
 have:v.cells[i]? =some u:=by simpa using hi
 rw [this] at hu'
 injection hu' with hu'
 subst hu'
 exact hV
theorem solid_dead {x:AV} (h:x.cells.all solid=true):x≠ .dead:=by rintro rfl;cases h
theorem ok_store {t:TypeId} {x y:Operand} {p X:AV} (ho:o.op= .store t x y) (M:Mem F S β hp w) (hp':V S β w (a.eval x) p) (hx:V S β w (a.eval y) X) (hr:(storeA P t p X sc).run (look hp)=some (res,rd)) (hc:∀c,c∈res.cs→c.p):
  OpOK P F S β hp w a o res:=by
 unfold storeA at hr
 by_cases hsol:X.cells.all solid=false
 ·rw [if_pos hsol] at hr;cases hr
 rw [if_neg hsol] at hr
 have hsol:X.cells.all solid=true:=by simpa using hsol
 have hXs:∀c,c∈X.cells→solid c=true:=List.all_eq_true.1 hsol
 by_cases hsz:sizeA P t≠some X.cells.length
 ·rw [if_pos hsz] at hr;cases hr
 rw [if_neg hsz] at hr
 have hsz:sizeA P t=some X.cells.length:=Decidable.not_not.1 hsz
 have hE:=each_of_V hx (solid_dead hsol)
 have hvsz:(a.eval y).cells.size=X.cells.length:=by have:=hE.1;simpa using this
 have fin:∀{id k off:Nat} {bi:Bl} {ob ob':Ob} {es es':List AV} {e:AV},a.eval x= .pointer (some ⟨bi.blk,k*bi.sz+off,none⟩)→β id=some bi→look hp id=some ob→ob≠ .dead→HR S β w bi es→es[k]? =some e→
   off+X.cells.length≤e.cells.length→(∀w',HR S β w' bi (es.set k (.agg (overA e.cells off X.cells)))→HO S β w' id ob')→
   (∀j sz es,ob'.at j=some (.own sz es)→ob.at j=some (.own sz es)∧(j<k*bi.sz+off∨k*bi.sz+off+X.cells.length≤j))→res.v= .dead→res.upd=[(id,ob')]→OpOK P F S β hp w a o res:=by
  intro id k off bi ob ob' es es' e hv hb hl hd hHR hek hle hmk how e1 e2
  obtain ⟨cur',r1,r2,r3⟩:=hHR.over (P:=P) (M.own id bi hb).1 (e':= .agg (overA e.cells off X.cells)) hek hE hXs hle rfl
  obtain ⟨E,M'⟩:=M.turn hb hl hd (setRow_turns bi.blk cur' rfl) ob' (hmk _ r2) (fun j sz es h=>⟨(how j sz es h).1,r3 j (how j sz es h).2⟩)
  refine ok_skip (w':=w.setRow bi.blk cur') ?_ E (by rw [e2];exact M') e1
  have:(Instr.storeAt t (.pointer (some ⟨bi.blk,k*bi.sz+off,none⟩)) (a.eval y)).run P w= .ok () (w.setRow bi.blk cur'):=by
   simp [Instr.storeAt,Instr.sureAddr,storeVar,run_sizeOfA hsz,hvsz,r1]
  simp [execOp,ho,hv,this]
 cases p with
 |elt id k off=>
  simp only [Rd.run] at hr
  cases hl:look hp id with
  |none=>rw [hl] at hr;cases hr
  |some ob=>
   rw [hl] at hr
   have hob:=M.obs id ob hl
   generalize hv:a.eval x=v at hp'
   cases hp' with
   |elt _ _ _ bi hb=>
    cases ob with
    |var cs=>
     simp only at hr
     by_cases hk:k=0∧off+X.cells.length≤cs.length
     ·rw [if_pos hk] at hr
      injection hr with hr;injection hr with hr _;subst hr
      obtain ⟨bj,q1,q2,q3⟩:=hob
      rw [hb] at q1;injection q1 with q1;subst q1
      obtain ⟨rfl,hle⟩:=hk
      exact fin (ob':= .var (overA cs off X.cells)) (es:=[.agg cs]) (es':=[]) (e:= .agg cs) hv hb hl (by simp) q3 rfl hle (fun w' h=>⟨bi,hb,q2,h⟩) (fun j sz es hj=>by
       simp only [Ob.at,overA] at hj⊢
       rw [over_get _ _ _ _ hle] at hj
       rw [Nat.zero_mul,Nat.zero_add]
       by_cases c1:j<off
       ·rw [if_pos c1] at hj;exact ⟨hj,.inl c1⟩
       ·rw [if_neg c1] at hj
        by_cases c2:j<off+X.cells.length
        ·rw [if_pos c2] at hj
         have:=hXs _ (List.mem_of_getElem? hj)
         cases this
        ·rw [if_neg c2] at hj;exact ⟨hj,.inr (by omega)⟩) rfl rfl
     ·rw [if_neg hk] at hr;cases hr
    |row sz es=>
     simp only at hr
     obtain ⟨bj,q1,q2,q3⟩:=hob
     rw [hb] at q1;injection q1 with q1;subst q1
     by_cases hw:off=0∧X.cells.length=sz
     ·rw [if_pos hw] at hr
      injection hr with hr;injection hr with hr _;subst hr
      have hk:k<es.length:=hc _ (List.mem_singleton.2 rfl)
      obtain ⟨rfl,hXl⟩:=hw
      have hek:es[k]? =some es[k]:=List.getElem?_eq_getElem hk
      have hcl:es[k].cells.length=bi.sz:=by obtain ⟨_,_,_,_,_,_,h5,_⟩:=q3;exact h5 k _ hek
      have hover:overA es[k].cells 0 X.cells=X.cells:=by
       unfold overA
       rw [List.take_zero,List.nil_append,List.drop_of_length_le (by omega),List.append_nil]
      refine fin (ob':= .row sz (es.set k X)) (es:=es) (es':=[]) (e:=es[k]) hv hb hl (by simp) q3 hek (by omega) (fun w' h=>⟨bi,hb,q2,?_⟩) (fun j sz es hj=>by cases hj) rfl rfl
      rw [hover] at h
      obtain ⟨cur,ty,h1,h2,h3,h4,h5,h6⟩:=h
      refine ⟨cur,ty,h1,h2,by simpa using h3,h4,fun i z hz=> ?_,fun i j z c hz hc=> ?_⟩
      ·by_cases hki:k=i
       ·subst hki
        rw [List.getElem?_set,if_pos rfl,if_pos hk] at hz
        injection hz with hz
        subst hz
        omega
       ·exact h5 i z (by rw [List.getElem?_set,if_neg hki] at hz⊢;exact hz)
      ·by_cases hki:k=i
       ·subst hki
        rw [List.getElem?_set,if_pos rfl,if_pos hk] at hz
        injection hz with hz
        subst hz
        exact h6 k j (.agg X.cells) c (by rw [List.getElem?_set,if_pos rfl,if_pos hk]) hc
       ·exact h6 i j z c (by rw [List.getElem?_set,if_neg hki] at hz⊢;exact hz) hc
     ·rw [if_neg hw] at hr
      cases sc with
      |nil=>cases hr
      |cons dd sc'=>
       cases dd with
       |elt e=>
        simp only at hr
        by_cases hle:off+X.cells.length≤e.cells.length
        ·rw [if_pos hle] at hr
         injection hr with hr;injection hr with hr _;subst hr
         have hek:es[k]? =some e:=hc _ (List.mem_singleton.2 rfl)
         exact fin (ob':= .row sz (es.set k (.agg (overA e.cells off X.cells)))) (es:=es) (es':=[]) (e:=e) hv hb hl (by simp) q3 hek hle (fun w' h=>⟨bi,hb,q2,h⟩) (fun j sz es hj=>by cases hj) rfl rfl
        ·rw [if_neg hle] at hr;cases hr
       |_=>cases hr
    |map ks vs=>cases hr
    |dead=>cases hr
 |_=>cases hr
end
end
section
variable (len cap:Nat) (k k':IntKind) (l h:Int)
section
variable {P:Program} {F:Fr} {S:Blk} {β:Beta} {hp:List (Nat×Ob)} {w:World} {a:Act} {o:Oper} {res:Res} {rd:List Nat} {sc:List Dir}
theorem nil_adv {p:Option Addr} {cap l k:Nat} (h0:p=none→cap=0) (h:(if cap=l then p else p.map (·.add k))=none):cap-l=0:=by
 by_cases hc:cap=l
 ·omega
 ·rw [if_neg hc] at h
  cases p with
  |none=>have:=h0 rfl;omega
  |some q=>cases h
theorem elem_of {t e:TypeId} {n:Nat} (h:elemA P t=some (e,n)):P.underlying t=some (.slice e)∧sizeA P e=some n:=by
 unfold elemA at h
 cases hu:P.underlying t with
 |none=>rw [hu] at h;cases h
 |some d=>
  rw [hu] at h
  cases d<;>first
   |(cases h;done)
   |skip
  simp only at h
  obtain ⟨m,hm,hq⟩:=Option.map_eq_some_iff.1 h
  injection hq with q1 q2
  subst q1;subst q2
  exact ⟨rfl,hm⟩
theorem run_sliceX {t e:TypeId} {size:Nat} (hu:P.underlying t=some (.slice e)) (hs:sizeA P e=some size) (p:Option Addr) (len cap:Nat) (lo hi mx:Option Value) (l h m:Nat)
  (hb:(Instr.sliceBounds true len cap lo hi mx).run P w= .ok (l,h,m) w):
  (Instr.sliceAt t (.slice p len cap) lo hi mx).run P w= .ok (.slice (if m=l then p else p.map (·.add (l*size))) (h-l) (m-l)) w:=by
 simp [Instr.sliceAt,run_underlying hu,Instr.slice,hb,run_sizeOfA hs]
theorem bounds_h (h0:0≤h) (h1:h≤cap):(Instr.sliceBounds true len cap none (some (.int k h)) none).run P w= .ok (0,h.toNat,cap) w:=by
 simp [Instr.sliceBounds,Instr.sliceBound,asIntOf,h0,h1]
theorem bounds_l (h0:0≤l) (h1:l≤len):(Instr.sliceBounds true len cap (some (.int k l)) none none).run P w= .ok (l.toNat,len,cap) w:=by
 simp [Instr.sliceBounds,Instr.sliceBound,asIntOf,h0,h1]
theorem bounds_00:(Instr.sliceBounds true len cap none (some (.int k 0)) (some (.int k' 0))).run P w= .ok (0,0,0) w:=by
 simp [Instr.sliceBounds,Instr.sliceBound,asIntOf]
theorem bounds_lh (h0:0≤l) (h1:l≤h) (h2:h≤cap):(Instr.sliceBounds true len cap (some (.int k l)) (some (.int k' h)) none).run P w= .ok (l.toNat,h.toNat,cap) w:=by
 have h3:0≤h:=by omega
 have h4:l≤(h.toNat:Int):=by omega
 simp only [Instr.sliceBounds,Instr.sliceBound,asIntOf]
 simp [h0,h2,h3,h4,-Int.ofNat_toNat]
theorem bounds_lhm (k'':IntKind) (l h m:Int) (h0:0≤l) (h1:l≤h) (h2:h≤m) (h3:m≤cap):(Instr.sliceBounds true len cap (some (.int k l)) (some (.int k' h)) (some (.int k'' m))).run P w= .ok (l.toNat,h.toNat,m.toNat) w:=by
 have h4:0≤h:=by omega
 have h5:l≤(h.toNat:Int):=by omega
 have h6:0≤m:=by omega
 have h7:h≤(m.toNat:Int):=by omega
 simp only [Instr.sliceBounds,Instr.sliceBound,asIntOf]
 simp [h0,h3,h4,h5,h6,h7,-Int.ofNat_toNat]
theorem ok_slice {t:TypeId} {x:Operand} {lo hi mx:Option Operand} {X:AV} {L H Mx:Option AV} (ho:o.op= .slice t x lo hi mx) (M:Mem F S β hp w) (hx:V S β w (a.eval x) X)
  (hL:(lo=none∧L=none)∨∃q y,lo=some q∧L=some y∧V S β w (a.eval q) y) (hH:(hi=none∧H=none)∨∃q y,hi=some q∧H=some y∧V S β w (a.eval q) y)
  (hM:(mx=none∧Mx=none)∨∃q y,mx=some q∧Mx=some y∧V S β w (a.eval q) y)
  (hr:(sliceA P t X L H Mx sc).run (look hp)=some (res,rd)) (hc:∀c,c∈res.cs→c.p):OpOK P F S β hp w a o res:=by
 unfold sliceA at hr
 cases he:elemA P t with
 |none=>rw [he] at hr;cases hr
 |some es0=>
  obtain ⟨e,size⟩:=es0
  rw [he] at hr
  simp only at hr
  obtain ⟨hu,hs⟩:=elem_of he
  have none_of:∀{q:Option Operand},((q=none∧(none:Option AV)=none)∨∃q' y,q=some q'∧(none:Option AV)=some y∧V S β w (a.eval q') y)→q.map a.eval=none:=by
   rintro q (⟨rfl,_⟩|⟨_,_,_,h,_⟩)
   ·rfl
   ·cases h
  have some_of:∀{q:Option Operand} {k:IntKind} {n:Int},((q=none∧some (AV.int k n)=none)∨∃q' y,q=some q'∧some (AV.int k n)=some y∧V S β w (a.eval q') y)→q.map a.eval=some (.int k n):=by
   rintro q k n (⟨_,h⟩|⟨q',y,rfl,h,hv⟩)
   ·cases h
   ·injection h with h
    subst h
    generalize hq:a.eval q'=v at hv
    cases hv
    simp [hq]
  have exec:∀{v:Value},(Instr.sliceAt t (a.eval x) (lo.map a.eval) (hi.map a.eval) (mx.map a.eval)).run P w= .ok v w→(execOp a.eval o).run P w= .ok (.value v) w:=by
   intro v h
   simp [execOp,ho,h]
  generalize hv:a.eval x=v at hx exec
  split at hr
  ·rename_i id off len k h
   simp only [Rd.run] at hr
   cases hl:look hp id with
   |none=>rw [hl] at hr;cases hr
   |some ob=>
    rw [hl] at hr
    have hob:=M.obs id ob hl
    cases ob with
    |row sz es=>
     simp only [valIf,Rd.run] at hr
     injection hr with hr;injection hr with hr _;subst hr
     obtain ⟨h0,h1⟩:=hc _ (List.mem_singleton.2 rfl)
     obtain ⟨bj,q1,q2,cur,ty,r1,r2,r3,r4,r5,r6⟩:=hob
     cases hx with
     |row _ _ _ ad bi hb hle ha=>
      rw [hb] at q1;injection q1 with q1;subst q1
      refine ok_same M (v:= .slice (some ad) h.toNat (bi.cap-off)) (exec ?_) rfl (.row id off h.toNat ad bi hb (by omega) ha)
      rw [none_of hL,some_of hH,none_of hM,run_sliceX hu hs _ _ _ _ _ _ _ _ _ (bounds_h len _ k h h0 (by omega))]
      simp [Addr.add_zero']
    |_=>cases hr
  ·rename_i id off len k l
   simp only [Rd.run] at hr
   cases hl:look hp id with
   |none=>rw [hl] at hr;cases hr
   |some ob=>
    rw [hl] at hr
    have hob:=M.obs id ob hl
    cases ob with
    |row sz es=>
     simp only at hr
     by_cases hsz:sz=size
     ·rw [if_pos hsz] at hr
      simp only [valIf,Rd.run] at hr
      injection hr with hr;injection hr with hr _;subst hr
      obtain ⟨h0,h1⟩:=hc _ (List.mem_singleton.2 rfl)
      obtain ⟨bj,q1,q2,cur,ty,r1,r2,r3,r4,r5,r6⟩:=hob
      cases hx with
      |row _ _ _ ad bi hb hle ha=>
       rw [hb] at q1;injection q1 with q1;subst q1
       have hval:(Instr.sliceAt t (.slice (some ad) len (bi.cap-off)) (lo.map a.eval) (hi.map a.eval) (mx.map a.eval)).run P w= .ok (.slice (some (if bi.cap-off=l.toNat then ad else ad.add (l.toNat*size))) (len-l.toNat) (bi.cap-(off+l.toNat))) w:=by
        rw [some_of hL,none_of hH,none_of hM,run_sliceX hu hs _ _ _ _ _ _ _ _ _ (bounds_l len _ k l h0 h1),Nat.sub_sub]
        split<;>simp
       refine ok_same M (exec hval) rfl (.row id (off+l.toNat) (len-l.toNat) _ bi hb (by omega) (fun h=> ?_))
       rw [if_neg (by omega),ha (by omega),Addr.add_lit,←hsz,←q2,←Nat.add_mul]
     ·rw [if_neg hsz] at hr;cases hr
    |_=>cases hr
  ·rename_i es clip k l
   obtain ⟨e1,e2,_,e4⟩:=valIf_run hr
   obtain ⟨h0,h1,h2⟩:=hc _ (by rw [e4];exact List.mem_singleton.2 rfl)
   cases hx with
   |seq p cap sz b q _ _ U hcap hmax hclip hp' hsz hcc hvv hnil0=>
    have hval:(Instr.sliceAt t (.slice p es.length cap) (lo.map a.eval) (hi.map a.eval) (mx.map a.eval)).run P w= .ok (.slice (if cap=l.toNat then p else p.map (·.add (l.toNat*size))) (es.drop l.toNat).length (cap-l.toNat)) w:=by
     rw [some_of hL,none_of hH,none_of hM,run_sliceX hu hs _ _ _ _ _ _ _ _ _ (bounds_l es.length _ k l h0 h1),List.length_drop]
    refine ok_same M (exec hval) e2 ?_
    rw [e1]
    refine .seq _ (cap-l.toNat) size b (q+l.toNat*size) (es.drop l.toNat) false (fun i j=>U (l.toNat+i) j) (by rw [List.length_drop];omega) (by omega) (fun h=>by cases h) (fun hne=> ?_) (fun i e he=> ?_) (fun i j e c he hc=> ?_) (fun i j e c he hc=> ?_) (nil_adv hnil0)
    ·have hlt:l.toNat<es.length:=by
      apply Nat.lt_of_not_le
      intro h
      exact hne (List.drop_of_length_le h)
     have hne':es≠[]:=by rintro rfl;simp at hlt
     obtain ⟨rfl,hS⟩:=hp' hne'
     rw [if_neg (by omega)]
     refine ⟨?_,hS⟩
     simp [Addr.add_lit]
    ·rw [List.getElem?_drop] at he
     exact h2 _ (List.mem_of_getElem? he)
    ·rw [List.getElem?_drop] at he
     have hs2:sz=size:=by rw [←hsz _ _ he];exact h2 _ (List.mem_of_getElem? he)
     have:=hcc _ _ _ _ he hc
     rw [hs2,Nat.add_mul] at this
     rw [Nat.add_assoc q]
     exact this
    ·rw [List.getElem?_drop] at he
     exact hvv _ _ _ _ he hc
  ·rename_i es clip k h
   obtain ⟨e1,e2,_,e4⟩:=valIf_run hr
   obtain ⟨h0,h1⟩:=hc _ (by rw [e4];exact List.mem_singleton.2 rfl)
   cases hx with
   |seq p cap sz b q _ _ U hcap hmax hclip hp' hsz hcc hvv hnil0=>
    have hval:(Instr.sliceAt t (.slice p es.length cap) (lo.map a.eval) (hi.map a.eval) (mx.map a.eval)).run P w= .ok (.slice p (es.take h.toNat).length cap) w:=by
     rw [none_of hL,some_of hH,none_of hM,run_sliceX hu hs _ _ _ _ _ _ _ _ _ (bounds_h es.length _ k h h0 (by omega)),List.length_take,Nat.min_eq_left (by omega)]
     cases p<;>simp [Addr.add_zero']
    refine ok_same M (exec hval) e2 ?_
    rw [e1]
    have tk:∀{i:Nat} {e:AV},(es.take h.toNat)[i]? =some e→es[i]? =some e:=by
     intro i e he
     rw [List.getElem?_take] at he
     split at he
     ·exact he
     ·cases he
    refine .seq p cap sz b q (es.take h.toNat) false U (by rw [List.length_take];omega) hmax (fun h=>by cases h) (fun hne=>hp' (by rintro rfl;simp at hne)) (fun i e he=>hsz i e (tk he)) (fun i j e c he hc=>hcc i j e c (tk he) hc) (fun i j e c he hc=>hvv i j e c (tk he) hc)
  ·rename_i es clip k k'
   obtain ⟨e1,e2,_,_⟩:=val_run hr
   cases hx with
   |seq p cap sz b q _ _ U hcap hmax hclip hp' hsz hcc hvv hnil0=>
    refine ok_same M (v:= .slice p 0 0) (exec ?_) e2 ?_
    ·rw [none_of hL,some_of hH,some_of hM,run_sliceX hu hs _ _ _ _ _ _ _ _ _ (bounds_00 _ _ k k')]
     simp
    ·rw [e1]
     exact .seq p 0 0 0 0 [] true (fun _ _=>undef) (by simp) (by simp [maxLen]) (fun _=>rfl) (fun h=>absurd rfl h) (by simp) (by simp) (by simp)
  ·rename_i id off len k k'
   obtain ⟨e1,e2,_,_⟩:=val_run hr
   cases hx with
   |row _ _ _ ad bi hb hle ha=>
    refine ok_same M (v:= .slice (some ad) 0 0) (exec ?_) e2 ?_
    ·rw [none_of hL,some_of hH,some_of hM,run_sliceX hu hs _ _ _ _ _ _ _ _ _ (bounds_00 _ _ k k')]
     simp
    ·rw [e1]
     exact .seq (some ad) 0 0 0 0 [] true (fun _ _=>undef) (by simp) (by simp [maxLen]) (fun _=>rfl) (fun h=>absurd rfl h) (by simp) (by simp) (by simp)
  ·rename_i id off len k l k' h
   simp only [Rd.run] at hr
   cases hl:look hp id with
   |none=>rw [hl] at hr;cases hr
   |some ob=>
    rw [hl] at hr
    have hob:=M.obs id ob hl
    cases ob with
    |row sz es=>
     simp only at hr
     by_cases hsz:sz=size
     ·rw [if_pos hsz] at hr
      simp only [valIf,Rd.run] at hr
      injection hr with hr;injection hr with hr _;subst hr
      obtain ⟨h0,h1,h2⟩:=hc _ (List.mem_singleton.2 rfl)
      obtain ⟨bj,q1,q2,cur,ty,r1,r2,r3,r4,r5,r6⟩:=hob
      cases hx with
      |row _ _ _ ad bi hb hle ha=>
       rw [hb] at q1;injection q1 with q1;subst q1
       have hval:(Instr.sliceAt t (.slice (some ad) len (bi.cap-off)) (lo.map a.eval) (hi.map a.eval) (mx.map a.eval)).run P w= .ok (.slice (some (if bi.cap-off=l.toNat then ad else ad.add (l.toNat*size))) (h.toNat-l.toNat) (bi.cap-(off+l.toNat))) w:=by
        rw [some_of hL,some_of hH,none_of hM,run_sliceX hu hs _ _ _ _ _ _ _ _ _ (bounds_lh len _ k k' l h h0 h1 (by omega)),Nat.sub_sub]
        split<;>simp
       refine ok_same M (exec hval) rfl (.row id (off+l.toNat) (h.toNat-l.toNat) _ bi hb (by omega) (fun h=> ?_))
       rw [if_neg (by omega),ha (by omega),Addr.add_lit,←hsz,←q2,←Nat.add_mul]
     ·rw [if_neg hsz] at hr;cases hr
    |_=>cases hr
  ·rename_i id off len k l k' h k'' m
   simp only [Rd.run] at hr
   cases hl:look hp id with
   |none=>rw [hl] at hr;cases hr
   |some ob=>
    rw [hl] at hr
    have hob:=M.obs id ob hl
    cases ob with
    |row sz es=>
     simp only [valIf,Rd.run] at hr
     injection hr with hr;injection hr with hr _;subst hr
     obtain ⟨h0,h1,h2,h3⟩:=hc _ (List.mem_singleton.2 rfl)
     obtain ⟨bj,q1,q2,cur,ty,r1,r2,r3,r4,r5,r6⟩:=hob
     cases hx with
     |row _ _ _ ad bi hb hle ha=>
      rw [hb] at q1;injection q1 with q1;subst q1
      have hval:(Instr.sliceAt t (.slice (some ad) len (bi.cap-off)) (lo.map a.eval) (hi.map a.eval) (mx.map a.eval)).run P w= .ok (.slice (if m.toNat=l.toNat then some ad else (some ad).map (·.add (l.toNat*size))) (h.toNat-l.toNat) (m.toNat-l.toNat)) w:=by
       rw [some_of hL,some_of hH,some_of hM,run_sliceX hu hs _ _ _ _ _ _ _ _ _ (bounds_lhm len _ k k' k'' l h m h0 h1 h2 (by omega))]
      exact ok_same M (exec hval) rfl (.dead _)
    |_=>cases hr
  ·rename_i es clip k l k' h
   obtain ⟨e1,e2,_,e4⟩:=valIf_run hr
   obtain ⟨h0,h1,h2,h3⟩:=hc _ (by rw [e4];exact List.mem_singleton.2 rfl)
   cases hx with
   |seq p cap sz b q _ _ U hcap hmax hclip hp' hsz hcc hvv hnil0=>
    have hlen:((es.take h.toNat).drop l.toNat).length=h.toNat-l.toNat:=by rw [List.length_drop,List.length_take];omega
    have hval:(Instr.sliceAt t (.slice p es.length cap) (lo.map a.eval) (hi.map a.eval) (mx.map a.eval)).run P w= .ok (.slice (if cap=l.toNat then p else p.map (·.add (l.toNat*size))) ((es.take h.toNat).drop l.toNat).length (cap-l.toNat)) w:=by
     rw [some_of hL,some_of hH,none_of hM,run_sliceX hu hs _ _ _ _ _ _ _ _ _ (bounds_lh es.length _ k k' l h h0 h1 (by omega)),hlen]
    have get:∀{i:Nat} {e:AV},((es.take h.toNat).drop l.toNat)[i]? =some e→es[l.toNat+i]? =some e:=by
     intro i e he
     rw [List.getElem?_drop,List.getElem?_take] at he
     split at he
     ·exact he
     ·cases he
    refine ok_same M (exec hval) e2 ?_
    rw [e1]
    refine .seq _ (cap-l.toNat) size b (q+l.toNat*size) ((es.take h.toNat).drop l.toNat) false (fun i j=>U (l.toNat+i) j) (by rw [hlen];omega) (by omega) (fun h=>by cases h) (fun hne=> ?_) (fun i e he=> ?_) (fun i j e c he hc=> ?_) (fun i j e c he hc=> ?_) (nil_adv hnil0)
    ·have hlt:l.toNat<es.length:=by
      apply Nat.lt_of_not_le
      intro h
      apply hne
      apply List.drop_of_length_le
      rw [List.length_take];omega
     have hne':es≠[]:=by rintro rfl;simp at hlt
     obtain ⟨rfl,hS⟩:=hp' hne'
     rw [if_neg (by omega)]
     refine ⟨?_,hS⟩
     simp [Addr.add_lit]
    ·exact h3 _ (List.mem_of_getElem? (get he))
    ·have he':=get he
     have hs2:sz=size:=by rw [←hsz _ _ he'];exact h3 _ (List.mem_of_getElem? he')
     have:=hcc _ _ _ _ he' hc
     rw [hs2,Nat.add_mul] at this
     rw [Nat.add_assoc q]
     exact this
    ·exact hvv _ _ _ _ (get he) hc
  ·cases hr
theorem ok_cut {t:TypeId} {x:Operand} {lo hi:Option Operand} {s:ByteArray} {L H:Option AV} (ho:o.op= .slice t x lo hi none) (M:Mem F S β hp w) (hx:V S β w (a.eval x) (.str s))
  (hL:(lo=none∧L=none)∨∃q y,lo=some q∧L=some y∧V S β w (a.eval q) y) (hH:(hi=none∧H=none)∨∃q y,hi=some q∧H=some y∧V S β w (a.eval q) y)
  (hr:(cutA P t s L H sc).run (look hp)=some (res,rd)) (hc:∀c,c∈res.cs→c.p):OpOK P F S β hp w a o res:=by
 unfold cutA at hr
 cases hu:P.underlying t with
 |none=>rw [hu] at hr;cases hr
 |some d=>
  rw [hu] at hr
  cases d<;>first
   |(cases hr;done)
   |skip
  simp only at hr
  generalize hv:a.eval x=v at hx
  cases hx
  split at hr
  ·rename_i k h
   obtain ⟨e1,e2,_,e4⟩:=valIf_run hr
   obtain ⟨h0,h1⟩:=hc _ (by rw [e4];exact List.mem_singleton.2 rfl)
   rcases hL with ⟨rfl,_⟩|⟨_,_,_,h,_⟩
   ·rcases hH with ⟨_,h⟩|⟨q,y,rfl,h,hq⟩
    ·cases h
    ·injection h with h
     subst h
     generalize hvq:a.eval q=vq at hq
     cases hq
     refine ok_same M (v:= .string (s.extract 0 h.toNat)) ?_ e2 (by rw [e1];exact .str _)
     simp [execOp,ho,hv,hvq,Instr.sliceAt,run_underlying hu,Instr.slice,Instr.sliceBounds,Instr.sliceBound,asIntOf,h0,h1]
   ·cases h
  ·rename_i k l
   obtain ⟨e1,e2,_,e4⟩:=valIf_run hr
   obtain ⟨h0,h1⟩:=hc _ (by rw [e4];exact List.mem_singleton.2 rfl)
   rcases hH with ⟨rfl,_⟩|⟨_,_,_,h,_⟩
   ·rcases hL with ⟨_,h⟩|⟨q,y,rfl,h,hq⟩
    ·cases h
    ·injection h with h
     subst h
     generalize hvq:a.eval q=vq at hq
     cases hq
     refine ok_same M (v:= .string (s.extract l.toNat s.size)) ?_ e2 (by rw [e1];exact .str _)
     simp [execOp,ho,hv,hvq,Instr.sliceAt,run_underlying hu,Instr.slice,Instr.sliceBounds,Instr.sliceBound,asIntOf,h0,h1]
   ·cases h
  ·rename_i k l k' h
   obtain ⟨e1,e2,_,e4⟩:=valIf_run hr
   obtain ⟨h0,h1,h2⟩:=hc _ (by rw [e4];exact List.mem_singleton.2 rfl)
   rcases hL with ⟨_,h'⟩|⟨q,y,rfl,h',hq⟩
   ·cases h'
   ·injection h' with h';subst h'
    rcases hH with ⟨_,h''⟩|⟨q2,y2,rfl,h'',hq2⟩
    ·cases h''
    ·injection h'' with h'';subst h''
     generalize hvq:a.eval q=vq at hq
     generalize hvq2:a.eval q2=vq2 at hq2
     cases hq;cases hq2
     refine ok_same M (v:= .string (s.extract l.toNat h.toNat)) ?_ e2 (by rw [e1];exact .str _)
     have h3:0≤h:=by omega
     have h4:l≤(h.toNat:Int):=by omega
     simp [execOp,ho,hv,hvq,hvq2,Instr.sliceAt,run_underlying hu,Instr.slice,Instr.sliceBounds,Instr.sliceBound,asIntOf,h0,h2,h3,h4,-Int.ofNat_toNat]
  ·cases hr
end
end
section
section
variable {P:Program} {F:Fr} {S:Blk} {β:Beta} {hp:List (Nat×Ob)} {w:World} {a:Act} {o:Oper} {res:Res} {rd:List Nat} {sc:List Dir}
theorem fold_set (off:Nat):∀(l:List Value) (k:Nat) (cells:Array Value),off+k+l.length≤cells.size→
  ((l.zipIdx k).foldl (fun cs (x:Value×Nat)=>cs.setIfInBounds (off+x.2) x.1) cells).toList=cells.toList.take (off+k)++l++cells.toList.drop (off+k+l.length)
 |[],k,cells,h=>by simp
 |v::l,k,cells,h=>by
  simp only [List.length_cons] at h
  rw [List.zipIdx_cons,List.foldl_cons,fold_set off l (k+1) _ (by simp;omega)]
  apply List.ext_getElem?
  intro m
  have h1:off+(k+1)+l.length≤(cells.setIfInBounds (off+k) v).toList.length:=by simp;omega
  have h2:off+k+(v::l).length≤cells.toList.length:=by simp;omega
  rw [over_get _ _ _ _ h1,over_get _ _ _ _ h2]
  simp only [List.length_cons,Array.toList_setIfInBounds,List.getElem?_set]
  by_cases c1:m<off+k
  ·rw [if_pos c1,if_pos (by omega),if_neg (by omega)]
  ·rw [if_neg c1]
   by_cases c2:m=off+k
   ·subst c2
    rw [if_pos (by omega),if_pos rfl,if_pos (by simp;omega),if_pos (by omega)]
    simp
   ·rw [if_neg (by omega)]
    by_cases c3:m<off+k+(l.length+1)
    ·rw [if_pos (by omega),if_pos c3,show m-(off+k)=(m-(off+(k+1)))+1 by omega]
     simp
    ·rw [if_neg (by omega),if_neg c3,if_neg (by omega)]
def Parts (S:Blk) (β:Beta) (w:World):List (Nat×Value)→List (Nat×AV)→Prop
 |[],[]=>True
 |(i,v)::r,(j,x)::s=>i=j∧V S β w v x∧Parts S β w r s
 |_,_=>False
theorem fill_sound (place:Nat→Option (Nat×Nat)):∀(ps:List (Nat×Value)) (qs:List (Nat×AV)) (cells:Array Value) (cs out:List AV),Parts S β w ps qs→Each S β w cells.toList cs→fillA place cs qs=some out→
  ∃out',Instr.fill place cells ps=some out'∧Each S β w out'.toList out
 |[],[],cells,cs,out,_,hE,h=>by
  simp only [fillA] at h
  injection h with h
  subst h
  exact ⟨cells,rfl,hE⟩
 |(i,v)::ps,(j,x)::qs,cells,cs,out,hP,hE,h=>by
  obtain ⟨rfl,hv,hP⟩:=hP
  simp only [fillA] at h
  cases hp:place i with
  |none=>rw [hp] at h;cases h
  |some y=>
   obtain ⟨off,size⟩:=y
   rw [hp] at h
   simp only at h
   by_cases hc:isDead x=true∨x.cells.length≠size∨off+x.cells.length>cs.length
   ·rw [if_pos hc] at h;cases h
   ·rw [if_neg hc] at h
    have hx:x≠ .dead:=by rintro rfl;exact hc (.inl rfl)
    have h1:x.cells.length=size:=by apply Decidable.not_not.1;intro h;exact hc (.inr (.inl h))
    have h2:off+x.cells.length≤cs.length:=by apply Nat.le_of_not_lt;intro h;exact hc (.inr (.inr h))
    have hEx:=each_of_V hv hx
    have hl:v.cells.size=x.cells.length:=by have:=hEx.1;simpa using this
    have hcl:cells.size=cs.length:=by have:=hE.1;simpa using this
    have hf:=fold_set off v.cells.toList 0 cells (by simp [hl,hcl];omega)
    simp only [Nat.add_zero] at hf
    have hfold:v.cells.zipIdx.foldl (fun cs (x:Value×Nat)=>cs.setIfInBounds (off+x.2) x.1) cells=(cells.toList.take off++v.cells.toList++cells.toList.drop (off+v.cells.toList.length)).toArray:=by
     apply Array.toList_inj.1
     rw [←Array.foldl_toList,Array.toList_zipIdx]
     simpa using hf
    have hE2:Each S β w (cells.toList.take off++v.cells.toList++cells.toList.drop (off+v.cells.toList.length)) (overA cs off x.cells):=by
     refine ⟨?_,fun m u c h3 h4=> ?_⟩
     ·simp only [overA,List.length_append,List.length_take,List.length_drop,Array.length_toList]
      omega
     ·rw [over_get _ _ _ _ (by simp [hl,hcl];omega)] at h3
      rw [overA,over_get _ _ _ _ h2] at h4
      simp only [Array.length_toList,hl] at h3
      by_cases c1:m<off
      ·rw [if_pos c1] at h3 h4;exact hE.2 m u c h3 h4
      ·rw [if_neg c1] at h3 h4
       by_cases c2:m<off+x.cells.length
       ·rw [if_pos c2] at h3 h4;exact hEx.2 _ u c h3 h4
       ·rw [if_neg c2] at h3 h4;exact hE.2 m u c h3 h4
    obtain ⟨out',q1,q2⟩:=fill_sound place ps qs (cells.toList.take off++v.cells.toList++cells.toList.drop (off+v.cells.toList.length)).toArray (overA cs off x.cells) out hP hE2 h
    refine ⟨out',?_,q2⟩
    simp only [Instr.fill,hp]
    have hn:¬((decide (v.cells.size≠size)||decide (off+v.cells.size>cells.size))=true):=by simp;omega
    rw [if_neg hn,hfold]
    exact q1
 |[],_::_,_,_,_,h,_,_=>h.elim
 |_::_,[],_,_,_,h,_,_=>h.elim
theorem zero_each {t:TypeId} {z:AV} (h:zeroA P t=some z) (hd:isDead z=false):∃i v,P.info? t=some i∧i.zero=some v∧Each S β w v.cells.toList z.cells:=by
 obtain ⟨v,_,hv,i,hi,hz⟩:=zero_of (S:=S) (β:=β) (w:=w) h
 exact ⟨i,v,hi,hz,each_of_V hv (by rintro rfl;cases hd)⟩
theorem ok_build {t:TypeId} {ps:Array (Nat×Operand)} {qs:List (Nat×AV)} (ho:o.op= .build t ps) (M:Mem F S β hp w) (hP:Parts S β w (ps.toList.map fun x=>(x.1,a.eval x.2)) qs)
  (hr:(buildA P t qs sc).run (look hp)=some (res,rd)):OpOK P F S β hp w a o res:=by
 unfold buildA at hr
 cases hu:P.underlying t with
 |none=>rw [hu] at hr;simp at hr;cases hr
 |some d=>
  rw [hu] at hr
  cases d with
  |struct fields=>
   cases hz:zeroA P t with
   |none=>rw [hz] at hr;cases hr
   |some z=>
    rw [hz] at hr
    simp only at hr
    cases hm:fields.toList.mapM (fun f=>(P.info? f.type).map fun i=>(f.offset,i.size)) with
    |none=>rw [hm] at hr;cases hr
    |some places=>
     rw [hm] at hr
     simp only at hr
     cases hf:fillA (places.toArray[·]?) z.cells qs with
     |none=>rw [hf] at hr;cases hr
     |some cs=>
      rw [hf] at hr
      simp only at hr
      by_cases hd:isDead z=true
      ·rw [if_pos hd] at hr;cases hr
      ·rw [if_neg hd] at hr
       obtain ⟨e1,e2,_,_⟩:=val_run hr
       obtain ⟨i,v,hi,hzv,hE⟩:=zero_each (S:=S) (β:=β) (w:=w) hz (by simpa using hd)
       obtain ⟨out,h1,h2⟩:=fill_sound _ _ _ v.cells _ _ hP hE hf
       refine ok_same M (v:= .agg out) ?_ e2 ?_
       ·have hb:P.built t (ps.map fun (i,x)=>(i,a.eval x)).toList=some out:=by
         unfold Program.built
         rw [hi,hu]
         simp only [hzv,hm,Array.toList_map]
         exact h1
        have:=run_build (P:=P) w t (ps.map fun (i,x)=>(i,a.eval x)) out hb
        simp [execOp,ho,this]
       ·rw [e1]
        have:=V.agg (S:=S) (β:=β) (w:=w) _ _ h2.1 h2.2
        simpa using this
  |_=>cases hz:zeroA P t<;>rw [hz] at hr<;>cases hr
end
end
section
def flat (es:List AV):List AV:=(es.map AV.cells).flatten
theorem flat_nil:flat []=[]:=rfl
theorem flat_cons (e:AV) (es:List AV):flat (e::es)=e.cells++flat es:=by simp [flat]
theorem flat_append (es fs:List AV):flat (es++fs)=flat es++flat fs:=by simp [flat]
theorem flat_length {sz:Nat}:∀{es:List AV},(∀e,e∈es→e.cells.length=sz)→(flat es).length=es.length*sz
 |[],_=>by simp [flat]
 |e::es,h=>by
  rw [flat_cons,List.length_append,h e (by simp),flat_length (fun x hx=>h x (by simp [hx])),List.length_cons,Nat.add_mul,Nat.one_mul,Nat.add_comm]
theorem flat_get {sz:Nat}:∀{es:List AV},(∀e,e∈es→e.cells.length=sz)→∀{i j:Nat} {e:AV},es[i]? =some e→j<sz→(flat es)[i*sz+j]? =e.cells[j]?
 |[],_,i,j,e,h,_=>by simp at h
 |x::es,hs,0,j,e,h,hj=>by
  simp at h
  subst h
  rw [flat_cons,Nat.zero_mul,Nat.zero_add,List.getElem?_append_left (by rw [hs x (by simp)];exact hj)]
 |x::es,hs,i+1,j,e,h,hj=>by
  rw [flat_cons,List.getElem?_append_right (by rw [hs x (by simp),Nat.add_mul,Nat.one_mul];omega),hs x (by simp)]
  have:=flat_get (es:=es) (fun y hy=>hs y (List.mem_cons_of_mem _ hy)) (i:=i) (j:=j) (e:=e) (by simpa using h) hj
  rw [←this]
  congr 1
  rw [Nat.add_mul,Nat.one_mul];omega
theorem collect {Q:Nat→Value→Prop}:∀(n:Nat),(∀m,m<n→∃u,Q m u)→∃l:List Value,l.length=n∧∀(m:Nat) u,l[m]? =some u→Q m u
 |0,_=>⟨[],rfl,by simp⟩
 |n+1,h=>by
  obtain ⟨l,hl,hq⟩:=collect n (fun m hm=>h m (by omega))
  obtain ⟨u,hu⟩:=h n (by omega)
  refine ⟨l++[u],by simp [hl],fun m v hv=> ?_⟩
  by_cases hm:m<n
  ·rw [List.getElem?_append_left (by omega)] at hv;exact hq m v hv
  ·have hml:m<(l++[u]).length:=(List.getElem?_eq_some_iff.1 hv).1
   have:m=n:=by simp [hl] at hml;omega
   subst this
   rw [List.getElem?_append_right (by omega)] at hv
   simp [hl] at hv
   subst hv
   exact hu
section
variable {P:Program} {F:Fr} {S:Blk} {β:Beta} {hp:List (Nat×Ob)} {w:World} {a:Act} {o:Oper} {res:Res} {rd:List Nat} {sc:List Dir}
theorem Each.append {vs us:List Value} {xs ys:List AV} (h:Each S β w vs xs) (k:Each S β w us ys):Each S β w (vs++us) (xs++ys):=by
 refine ⟨by rw [List.length_append,List.length_append,h.1,k.1],fun i v x hv hx=> ?_⟩
 by_cases c:i<vs.length
 ·rw [List.getElem?_append_left c] at hv
  rw [List.getElem?_append_left (by rw [←h.1];exact c)] at hx
  exact h.2 i v x hv hx
 ·rw [List.getElem?_append_right (by omega)] at hv
  rw [List.getElem?_append_right (by rw [←h.1];omega),←h.1] at hx
  exact k.2 _ v x hv hx
theorem Each.mono {S':Blk} {β':Beta} {w':World} (E:Ext S S' β β' w w') {vs:List Value} {xs:List AV} (h:Each S β w vs xs):Each S' β' w' vs xs:=⟨h.1,fun i v x h1 h2=>(h.2 i v x h1 h2).ext E⟩
theorem HR.of_flat {bi:Bl} {es:List AV} {cur:Array Value} {t:TypeId} (h1:w.heap[bi.blk]? =some (.cells cur t (0,0))) (h2:cur.size=bi.cap*bi.sz) (h3:es.length≤bi.cap) (h4:bi.cap≤maxLen)
  (h5:∀e,e∈es→e.cells.length=bi.sz) (h6:Each S β w (cur.toList.take (es.length*bi.sz)) (flat es)):HR S β w bi es:=by
 refine ⟨cur,t,h1,h2,h3,h4,fun i e he=>h5 e (List.mem_of_getElem? he),fun i j e c he hc=> ?_⟩
 have hj:j<bi.sz:=by rw [←h5 e (List.mem_of_getElem? he)];exact (List.getElem?_eq_some_iff.1 hc).1
 have hf:=flat_get h5 he hj
 rw [hc] at hf
 have hlt:=(List.getElem?_eq_some_iff.1 hf).1
 have hv:(cur.toList.take (es.length*bi.sz))[i*bi.sz+j]? =some ((cur.toList.take (es.length*bi.sz))[i*bi.sz+j]'(by rw [h6.1];exact hlt)):=List.getElem?_eq_getElem _
 refine ⟨_,?_,h6.2 _ _ c hv hf⟩
 have h7:=hv
 rw [List.getElem?_take] at h7
 split at h7
 ·rw [Array.getElem?_toList] at h7;exact h7
 ·cases h7
theorem HR.flat_ {bi:Bl} {es:List AV} (h:HR S β w bi es):∃cur t,w.heap[bi.blk]? =some (.cells cur t (0,0))∧cur.size=bi.cap*bi.sz∧es.length≤bi.cap∧bi.cap≤maxLen∧(∀e,e∈es→e.cells.length=bi.sz)∧
  Each S β w (cur.toList.take (es.length*bi.sz)) (flat es):=by
 obtain ⟨cur,t,h1,h2,h3,h4,h5,h6⟩:=h
 have h5':∀e,e∈es→e.cells.length=bi.sz:=fun e he=>by obtain ⟨i,hi⟩:=List.mem_iff_getElem?.1 he;exact h5 i e hi
 have hle:es.length*bi.sz≤cur.size:=by rw [h2];exact Nat.mul_le_mul_right _ h3
 refine ⟨cur,t,h1,h2,h3,h4,h5',by rw [flat_length h5',List.length_take];have:cur.toList.length=cur.size:=Array.length_toList;omega,fun m v x hv hx=> ?_⟩
 have hm:m<es.length*bi.sz:=by rw [←flat_length h5'];exact (List.getElem?_eq_some_iff.1 hx).1
 have hpos:0<bi.sz:=by
  rcases Nat.eq_zero_or_pos bi.sz with h|h
  ·rw [h] at hm;simp at hm
  ·exact h
 have hi:m/bi.sz<es.length:=Nat.div_lt_of_lt_mul (by rw [Nat.mul_comm];exact hm)
 have hj:m%bi.sz<bi.sz:=Nat.mod_lt _ hpos
 have hmd:m/bi.sz*bi.sz+m%bi.sz=m:=by rw [Nat.mul_comm];exact Nat.div_add_mod m bi.sz
 have he:es[m/bi.sz]? =some es[m/bi.sz]:=List.getElem?_eq_getElem hi
 have hf:=flat_get h5' he hj
 rw [hmd,hx] at hf
 obtain ⟨u,hu,hV⟩:=h6 _ _ _ x he hf.symm
 rw [hmd] at hu
 rw [List.getElem?_take,if_pos hm] at hv
 have:cur[m]? =some v:=by simpa using hv
 rw [this] at hu
 injection hu with hu
 subst hu
 exact hV
theorem new_row {d n cap sz:Nat} {es:List AV} {cur:Array Value} {t:TypeId} (M:Mem F S β hp w) (hd:look hp d=none) (hn:es.length=n) (h2:cur.size=cap*sz) (h3:n≤cap) (h4:cap≤maxLen) (h5:∀e,e∈es→e.cells.length=sz)
  (h6:Each S β w (cur.toList.take (n*sz)) (flat es)):
  ∃S' β',Ext S S' β β' w (w.alloc (.cells cur t))∧Mem F S' β' (putL hp d (.row sz es)) (w.alloc (.cells cur t))∧V S' β' (w.alloc (.cells cur t)) (.slice (some ⟨w.heap.size,0,none⟩) n cap) (.row d 0 n):=by
 have hE0:Ext S S β (β.add d ⟨w.heap.size,sz,cap⟩) w (w.alloc (.cells cur t)):=⟨fun _ h=>h,Beta.add_ext (M.beta_none hd),fun b hb=>heap_alloc_old w _ (M.sub b hb)⟩
 have hob:HO S (β.add d ⟨w.heap.size,sz,cap⟩) (w.alloc (.cells cur t)) d (.row sz es):=
  ⟨_,Beta.add_same _ _ _,rfl,HR.of_flat (heap_alloc_new w _) h2 (by rw [hn];exact h3) h4 h5 (by rw [hn];exact h6.mono hE0)⟩
 obtain ⟨E,M'⟩:=M.alloc hd (.cells cur t) (.row sz es) (fun j a b h=>by cases h) sz cap hob
 refine ⟨S,_,E,M',?_⟩
 have:=V.row (S:=S) (β:=β.add d ⟨w.heap.size,sz,cap⟩) (w:=w.alloc (.cells cur t)) d 0 n ⟨w.heap.size,0,none⟩ _ (Beta.add_same _ _ _) (by simpa using h3) (fun _=>by simp)
 simpa using this
theorem fill_flat {n sz:Nat} (hsz:0<sz):∀(ps:List (Nat×AV)) (k:Nat) (cs:List AV),ps.map (·.1)=List.range' k ps.length→(∀p,p∈ps→isDead p.2=false∧p.2.cells.length=sz)→k+ps.length=n→cs.length=n*sz→
  fillA (fun i=>some (i*sz,sz)) cs ps=some (cs.take (k*sz)++flat (ps.map (·.2)))
 |[],k,cs,_,_,hk,hl=>by
  simp only [fillA,List.map_nil,flat_nil,List.append_nil]
  rw [List.take_of_length_le (by rw [hl,←hk];simp)]
 |(i,v)::ps,k,cs,hi,hv,hk,hl=>by
  simp only [List.map_cons,List.length_cons,List.range'_succ] at hi
  injection hi with h1 h2
  subst h1
  obtain ⟨d1,d2⟩:=hv (i,v) (by simp)
  simp only [List.length_cons] at hk
  have hle:i*sz+sz≤cs.length:=by
   rw [hl]
   have:=Nat.mul_le_mul_right sz (show i+1≤n by omega)
   rw [Nat.add_mul,Nat.one_mul] at this
   exact this
  simp only [fillA]
  rw [if_neg (by simp only [d1,d2,Bool.false_eq_true,ne_eq,not_true_eq_false,false_or];omega)]
  simp only at d2
  have hol:(overA cs (i*sz) v.cells).length=n*sz:=by
   simp only [overA,List.length_append,List.length_take,List.length_drop,d2];omega
  rw [fill_flat hsz ps (i+1) _ h2 (fun p hp=>hv p (by simp [hp])) (by omega) hol]
  congr 1
  simp only [List.map_cons,flat_cons,←List.append_assoc]
  congr 1
  have:(i+1)*sz=i*sz+sz:=by rw [Nat.add_mul,Nat.one_mul]
  rw [this,overA,List.take_append_of_le_length (by simp only [List.length_append,List.length_take,d2];omega),List.take_of_length_le (by simp only [List.length_append,List.length_take,d2];omega)]
theorem ok_buildSlice {t:TypeId} {n d:Nat} {ps:Array (Nat×Operand)} {qs:List (Nat×AV)} (ho:o.op= .buildSlice t n ps) (M:Mem F S β hp w) (hP:Parts S β w (ps.toList.map fun x=>(x.1,a.eval x.2)) qs)
  (hr:(rowOf P d t n qs sc).run (look hp)=some (res,rd)) (hn:∀id,id∈res.new→look hp id=none):OpOK P F S β hp w a o res:=by
 unfold rowOf at hr
 cases hu:P.underlying t with
 |none=>rw [hu] at hr;cases hr
 |some ds=>
  rw [hu] at hr
  cases ds<;>first
   |(cases hr;done)
   |skip
  rename_i e
  simp only at hr
  cases hs:sizeA P e with
  |none=>rw [hs] at hr;cases hr
  |some sz=>
   cases hz:zeroA P e with
   |none=>rw [hs,hz] at hr;cases hr
   |some z=>
    rw [hs,hz] at hr
    simp only at hr
    obtain ⟨zv,hzrun,hzV,iz,hiz,hzz⟩:=zero_of (S:=S) (β:=β) (w:=w) hz
    by_cases h0:n=0
    ·rw [if_pos h0] at hr
     by_cases hem:qs.isEmpty=true
     ·rw [if_pos hem] at hr
      obtain ⟨e1,e2,_,_⟩:=val_run hr
      subst h0
      have hqs:qs=[]:=List.isEmpty_iff.1 hem
      subst hqs
      have hps:ps.toList=[]:=by
       cases h:ps.toList with
       |nil=>rfl
       |cons x xs=>rw [h] at hP;exact hP.elim
      have hrun:(Instr.buildSlice t 0 (ps.map fun (i,x)=>(i,a.eval x))).run P w= .ok (.slice (some ⟨w.heap.size,0,none⟩) 0 0) (w.alloc (.cells #[] e)):=by
       simp [Instr.buildSlice,run_underlying hu,run_sizeOfA hs,hps,Instr.fill,newRow,Array.range_zero']
      have hE:Ext S S β β w (w.alloc (.cells #[] e)):=⟨fun _ h=>h,fun _ _ h=>h,fun b hb=>heap_alloc_old w _ (M.sub b hb)⟩
      refine ok_value (v:= .slice (some ⟨w.heap.size,0,none⟩) 0 0) (w':=w.alloc (.cells #[] e)) (S':=S) (β':=β) ?_ hE ?_ ?_
      ·simp [execOp,ho,hrun]
      ·rw [e2]
       exact M.waste _
      ·rw [e1]
       exact .seq _ 0 0 0 0 [] true (fun _ _=>undef) (by simp) (by simp [maxLen]) (fun _=>rfl) (fun h=>absurd rfl h) (by simp) (by simp) (by simp)
     ·rw [if_neg hem] at hr;cases hr
    ·rw [if_neg h0] at hr
     by_cases hall:qs.map (·.1)=List.range n∧qs.all (fun x=> !isDead x.2&&x.2.cells.length==sz)∧n*sz≤16777216∧0<sz∧z.cells.length=sz
     ·rw [if_pos hall] at hr
      injection hr with hr;injection hr with hr _;subst hr
      obtain ⟨g1,g2,g3,g4,g5⟩:=hall
      have hql:qs.length=n:=by have:=congrArg List.length g1;simpa using this
      have hqv:∀p,p∈qs→isDead p.2=false∧p.2.cells.length=sz:=by
       intro p hp
       have:=List.all_eq_true.1 g2 p hp
       simpa using this
      have hfill:=fill_flat (n:=n) g4 qs 0 (List.replicate (n*sz) .dead) (by rw [g1,hql,List.range_eq_range']) hqv (by omega) (by simp)
      simp only [Nat.zero_mul,List.take_zero,List.nil_append] at hfill
      let cells0:Array Value:=(Array.range (n*sz)).map (zv.cells[· %zv.cells.size]!)
      have hE0:Each S β w cells0.toList (List.replicate (n*sz) .dead):=by
       refine ⟨by simp [cells0],fun i v x hv hx=> ?_⟩
       rw [List.getElem?_replicate] at hx
       split at hx
       ·injection hx with hx;subst hx;exact .dead _
       ·cases hx
      obtain ⟨out,f1,f2⟩:=fill_sound _ _ _ cells0 _ _ hP hE0 hfill
      have huni:∀e,e∈qs.map (·.2)→e.cells.length=sz:=by
       intro e he
       obtain ⟨p,hp,rfl⟩:=List.mem_map.1 he
       exact (hqv p hp).2
      have hfl:(flat (qs.map (·.2))).length=n*sz:=by rw [flat_length huni,List.length_map,hql]
      have hout:out.size=n*sz:=by have:=f2.1;rw [hfl] at this;simpa using this
      have hlen63:n≤maxLen:=by
       have:n*1≤n*sz:=Nat.mul_le_mul_left n g4
       simp only [maxLen]
       omega
      obtain ⟨S',β',E,M',hv⟩:=new_row (d:=d) (n:=n) (cap:=n) (sz:=sz) (es:=qs.map (·.2)) (cur:=out) (t:=e) M (hn d (by simp)) (by simp [hql]) hout (Nat.le_refl _) hlen63 huni
       (by rw [List.take_of_length_le (by simp [hout])];exact f2)
      refine ok_value (v:= .slice (some ⟨w.heap.size,0,none⟩) n n) (w':=w.alloc (.cells out e)) ?_ E M' hv
      have hne:¬(n*sz=0):=by
       have:0<n*sz:=Nat.mul_pos (by omega) g4
       omega
      have hle:¬(n*sz>16777216):=by omega
      have f1':Instr.fill (fun i=>some (i*sz,sz)) cells0 ((ps.map fun (i,x)=>(i,a.eval x)).toList)=some out:=by
       rw [Array.toList_map];exact f1
      have hrun:(Instr.buildSlice t n (ps.map fun (i,x)=>(i,a.eval x))).run P w= .ok (.slice (some ⟨w.heap.size,0,none⟩) n n) (w.alloc (.cells out e)):=by
       simp only [Instr.buildSlice,Sem.run_bind,run_underlying hu,Result.andThen_ok,run_sizeOfA hs]
       rw [if_neg (by simpa using hle),if_neg hne]
       simp only [Sem.run_bind,Sem.run_pure,Result.andThen_ok,hzrun]
       simp only [cells0] at f1'
       rw [f1']
       simp [newRow]
      simp [execOp,ho,hrun]
     ·rw [if_neg hall] at hr;cases hr
end
end
section
section
variable {P:Program} {F:Fr} {S:Blk} {β:Beta} {hp:List (Nat×Ob)} {w:World} {a:Act} {o:Oper} {res:Res} {rd:List Nat} {sc:List Dir}
theorem ok_makeSlice {t:TypeId} {d:Nat} {x y:Operand} {n c:Int} (ho:o.op= .makeSlice t x y) (M:Mem F S β hp w) (hx:V S β w (a.eval x) (.int .i64 n)) (hy:V S β w (a.eval y) (.int .i64 c))
  (hr:(makeSliceA P d t n c sc).run (look hp)=some (res,rd)) (hc:∀c,c∈res.cs→c.p) (hn:∀id,id∈res.new→look hp id=none):OpOK P F S β hp w a o res:=by
 unfold makeSliceA at hr
 generalize hvx:a.eval x=vx at hx
 generalize hvy:a.eval y=vy at hy
 cases hx;cases hy
 cases hu:P.underlying t with
 |none=>rw [hu] at hr;cases hr
 |some ds=>
  rw [hu] at hr
  cases ds<;>first
   |(cases hr;done)
   |skip
  rename_i e
  simp only at hr
  cases hi:P.info? e with
  |none=>rw [hi] at hr;cases hr
  |some i=>
   cases hz:zeroA P e with
   |none=>rw [hi,hz] at hr;cases hr
   |some z=>
    rw [hi,hz] at hr
    simp only at hr
    by_cases hg:z.cells.length=i.size∧0<i.size∧¬isDead z=true
    ·rw [if_pos hg] at hr
     injection hr with hr;injection hr with hr _;subst hr
     obtain ⟨g1,g2,g3⟩:=hg
     obtain ⟨hnc,h0,hb,h63⟩:=hc _ (List.mem_singleton.2 rfl)
     subst hnc
     obtain ⟨i',zv,hi',hzv,hE⟩:=zero_each (S:=S) (β:=β) (w:=w) hz (by simpa using g3)
     rw [hi] at hi';injection hi' with hi';subst hi'
     have hzs:zv.cells.size=i.size:=by have:=hE.1;rw [g1] at this;simpa using this
     obtain ⟨m,rfl⟩:=Int.eq_ofNat_of_zero_le h0
     have hb':(i.bytes:Int)*(m:Int)≤281474976710656:=by rw [Int.mul_comm];omega
     have hrun:=run_make (P:=P) w t e i zv hu hi hzv .i64 .i64 m m h0 (Int.le_refl _) hb' h63
     rw [Int.toNat_natCast] at hrun
     have hsz:(madeCells zv.cells (m*i.size)).size=m*i.size:=by simp [madeCells]
     have huni:∀e,e∈List.replicate m z→e.cells.length=i.size:=by
      intro e he
      rw [(List.mem_replicate.1 he).2];exact g1
     have hflat:Each S β w ((madeCells zv.cells (m*i.size)).toList.take (m*i.size)) (flat (List.replicate m z)):=by
      rw [List.take_of_length_le (by simp [hsz])]
      refine ⟨by rw [flat_length huni,List.length_replicate];simp [hsz],fun j v q hv hq=> ?_⟩
      have hj:j<m*i.size:=by have:=(List.getElem?_eq_some_iff.1 hv).1;simpa [hsz] using this
      have hjm:j%i.size<i.size:=Nat.mod_lt _ g2
      have hjd:j/i.size<m:=Nat.div_lt_of_lt_mul (by rw [Nat.mul_comm];exact hj)
      have hmd:j/i.size*i.size+j%i.size=j:=by rw [Nat.mul_comm];exact Nat.div_add_mod j i.size
      have hrep:(List.replicate m z)[j/i.size]? =some z:=by rw [List.getElem?_replicate,if_pos hjd]
      have hf:=flat_get huni hrep hjm
      rw [hmd,hq] at hf
      have hzc:zv.cells.toList[j%i.size]? =some (zv.cells[j%i.size]'(by omega)):=by
       rw [Array.getElem?_toList];exact Array.getElem?_eq_getElem (by omega)
      have hvv:v=zv.cells[j%i.size]'(by omega):=by
       rw [Array.getElem?_toList] at hv
       simp only [madeCells,Array.getElem?_map] at hv
       rw [Array.getElem?_range,if_pos hj] at hv
       simp only [Option.map_some] at hv
       injection hv with hv
       have e1:j%zv.cells.size=j%i.size:=by rw [hzs]
       rw [←hv,e1,getElem!_pos zv.cells (j%i.size) (by omega)]
      rw [hvv]
      exact hE.2 _ _ q hzc hf.symm
     obtain ⟨S',β',E,M',hv⟩:=new_row (d:=d) (n:=m) (cap:=m) (sz:=i.size) (es:=List.replicate m z) (t:=e) M (hn d (by simp)) (by simp) hsz (Nat.le_refl _) (by simp only [maxLen];omega) huni hflat
     refine ok_value (v:= .slice (some ⟨w.heap.size,0,none⟩) m m) ?_ E (by simpa [putAll] using M') (by simpa using hv)
     simp [execOp,ho,hvx,hvy,hrun]
    ·rw [if_neg hg] at hr;cases hr
theorem news_run {y:AV} {k:List AV→Cond→Rd Res} (M:Mem F S β hp w) (h:(newsA y k).run (look hp)=some (res,rd)):∃ys q rd',(k ys q).run (look hp)=some (res,rd')∧
  ∀vy sz,V S β w vy y→q.p→(∀e,e∈ys→e.cells.length=sz)→∃p c,vy= .slice p ys.length c∧(ys≠[]→∃ad news,p=some ad∧Each S β w news (flat ys)∧∀(j:Nat) v,news[j]? =some v→w.cell? (ad.add j)=some v):=by
 cases y with
 |seq es clip=>
  refine ⟨es,mkC True,rd,h,fun vy sz hv _ hu=> ?_⟩
  cases hv with
  |seq p cap sz' b q _ _ U hcap hmax hclip hp' hsz hcc hvv=>
   refine ⟨p,cap,rfl,fun hne=> ?_⟩
   obtain ⟨rfl,hS⟩:=hp' hne
   have hss:sz'=sz:=by
    obtain ⟨e,l,rfl⟩:=List.exists_cons_of_ne_nil hne
    rw [←hsz 0 e rfl];exact hu e (by simp)
   subst hss
   have hcol:∀m,m<es.length*sz'→∃u,w.cell? ⟨b,q+m,none⟩=some u∧∀c,(flat es)[m]? =some c→V S β w u c:=by
    intro m hm
    have hpos:0<sz':=by
     rcases Nat.eq_zero_or_pos sz' with h|h
     ·rw [h] at hm;simp at hm
     ·exact h
    have hi:m/sz'<es.length:=Nat.div_lt_of_lt_mul (by rw [Nat.mul_comm];exact hm)
    have hj:m%sz'<sz':=Nat.mod_lt _ hpos
    have hmd:m/sz'*sz'+m%sz'=m:=by rw [Nat.mul_comm];exact Nat.div_add_mod m sz'
    have he:es[m/sz']? =some es[m/sz']:=List.getElem?_eq_getElem hi
    have hce:es[m/sz'].cells[m%sz']? =some (es[m/sz'].cells[m%sz']'(by rw [hsz _ _ he];exact hj)):=List.getElem?_eq_getElem _
    refine ⟨U (m/sz') (m%sz'),?_,fun c hc=> ?_⟩
    ·have:=hcc _ _ _ _ he hce
     rw [Nat.add_assoc,hmd] at this
     exact this
    ·have hf:=flat_get hu he hj
     rw [hmd,hc] at hf
     exact (hvv _ _ _ _ he hf.symm).up
   obtain ⟨news,hl,hq⟩:=collect _ hcol
   refine ⟨⟨b,q,none⟩,news,rfl,⟨by rw [hl,flat_length hu],fun i v x h1 h2=>(hq i v h1).2 x h2⟩,fun j v hj=>by rw [Addr.add_lit];exact (hq j v hj).1⟩
 |row id off len=>
  simp only [newsA,Rd.run] at h
  cases hl:look hp id with
  |none=>rw [hl] at h;cases h
  |some ob=>
   rw [hl] at h
   have hob:=M.obs id ob hl
   cases ob with
   |row sz0 es=>
    simp only at h
    cases hk:(k ((es.drop off).take len) (mkC (off+len≤es.length))).run (look hp) with
    |none=>rw [hk] at h;cases h
    |some p=>
     obtain ⟨r1,l1⟩:=p
     rw [hk] at h
     injection h with h;injection h with h1 h2
     subst h1
     refine ⟨_,_,l1,hk,fun vy sz hv hq hu=> ?_⟩
     obtain ⟨bj,q1,q2,q3⟩:=hob
     cases hv with
     |row _ _ _ ad bi hb hle ha=>
      rw [hb] at q1;injection q1 with q1;subst q1
      obtain ⟨cur,ty,r1,r2,r3,r4,r5,r6⟩:=q3.flat_
      have hlen:((es.drop off).take len).length=len:=by rw [List.length_take,List.length_drop];omega
      refine ⟨some ad,bi.cap-off,by rw [hlen],fun hne=> ?_⟩
      have hpos:0<len:=by
       rcases Nat.eq_zero_or_pos len with h|h
       ·subst h;simp at hne
       ·exact h
      have hss:bi.sz=sz:=by
       obtain ⟨e,l,he⟩:=List.exists_cons_of_ne_nil hne
       have h1:e∈(es.drop off).take len:=by rw [he];simp
       rw [←hu e h1]
       exact (r5 e (List.mem_of_mem_drop (List.mem_of_mem_take h1))).symm
      have had:=ha (by omega)
      have hsplit:flat es=flat (es.take off)++(flat ((es.drop off).take len)++flat ((es.drop off).drop len)):=by
       rw [←flat_append,List.take_append_drop,←flat_append,List.take_append_drop]
      have hl1:(flat (es.take off)).length=off*bi.sz:=by
       rw [flat_length (fun e he=>r5 e (List.mem_of_mem_take he)),List.length_take,Nat.min_eq_left (by omega)]
      have hl2:(flat ((es.drop off).take len)).length=len*bi.sz:=by
       rw [flat_length (fun e he=>r5 e (List.mem_of_mem_drop (List.mem_of_mem_take he))),hlen]
      rw [hsplit] at r6
      have s1:=r6.split.2.split.1
      rw [hl1] at s1
      refine ⟨ad,_,rfl,s1,fun j v hj=> ?_⟩
      rw [List.getElem?_take] at hj
      split at hj
      ·rw [List.getElem?_drop,List.getElem?_take] at hj
       split at hj
       ·rw [had,Addr.add_lit,cell_row r1]
        rw [Array.getElem?_toList] at hj
        exact hj
       ·cases hj
      ·cases hj
   |_=>cases h
 |_=>cases h
theorem append_same {t e:TypeId} {i:TypeInfo} (hu:P.underlying t=some (.slice e)) (hi:P.info? e=some i) (ty:TypeId) (p:Option Addr) (n cap:Nat) (hn:n≤cap) (q:Option Addr) (c:Nat):
  (Builtin.append_ #[t,t] ty #[.slice p n cap,.slice q 0 c]).run P w= .ok (.slice p n cap) w:=by
 cases p<;>cases q<;>simp [Builtin.append_,run_underlying hu,sizeOf,typeInfo,hi,Builtin.lenOf,hn,Builtin.firstCells,loadCells,loadCellsFrom,storeCells]
theorem append_room {t e:TypeId} {i:TypeInfo} (hu:P.underlying t=some (.slice e)) (hi:P.info? e=some i) (ty tb:TypeId) (g n cap:Nat) (cur:Array Value) (hg:w.heap[g]? =some (.cells cur tb (0,0)))
  (ad:Addr) (m c:Nat) (news:List Value) (hl:news.length=m*i.size) (hnews:∀(j:Nat) u,news[j]? =some u→w.cell? (ad.add j)=some u) (h1:∀u,u∈news→u.oneCell'=true) (hroom:n+m≤cap) (hfit:n*i.size+news.length≤cur.size):
  (Builtin.append_ #[t,t] ty #[.slice (some ⟨g,0,none⟩) n cap,.slice (some ad) m c]).run P w=
   .ok (.slice (some ⟨g,0,none⟩) (n+m) cap) (w.setRow g (cur.toList.take (n*i.size)++news++cur.toList.drop (n*i.size+news.length)).toArray):=by
 have hf:=run_firstCells_some (P:=P) w i.size m ad m c news hl hnews
 have hst:=run_storeCells_at P g (n*i.size) tb news 0 cur w hg (by simpa using hfit) h1
 simp only [Nat.add_zero] at hst
 simp [Builtin.append_,run_underlying hu,sizeOf,typeInfo,hi,Builtin.lenOf,hroom,hf,Addr.add_lit,hst]
theorem Each.one {vs:List Value} {xs:List AV} (h:Each S β w vs xs) (hs:∀c,c∈xs→solid c=true):∀v,v∈vs→v.oneCell'=true:=by
 intro v hv
 obtain ⟨i,hi⟩:=List.mem_iff_getElem?.1 hv
 have hl:=h.1
 have hilt:i<vs.length:=(List.getElem?_eq_some_iff.1 hi).1
 have hxi:xs[i]? =some (xs[i]'(by omega)):=List.getElem?_eq_getElem (by omega)
 exact solid_one (h.2 i v _ hi hxi) (hs _ (List.mem_of_getElem? hxi))
theorem flat_solid {sz:Nat} {es:List AV} (h:∀e,e∈es→okE sz e):∀c,c∈flat es→solid c=true:=by
 intro c hc
 simp only [flat,List.mem_flatten,List.mem_map] at hc
 obtain ⟨l,⟨e,he,rfl⟩,hcl⟩:=hc
 exact (h e he).2 c hcl
theorem flat_take {sz:Nat} {es:List AV} (h:∀e,e∈es→e.cells.length=sz) (k:Nat) (hk:k≤es.length):flat (es.take k)=(flat es).take (k*sz):=by
 have h1:flat es=flat (es.take k)++flat (es.drop k):=by rw [←flat_append,List.take_append_drop]
 have h2:(flat (es.take k)).length=k*sz:=by
  rw [flat_length (fun e he=>h e (List.mem_of_mem_take he)),List.length_take,Nat.min_eq_left hk]
 rw [h1,←h2,List.take_left]
theorem flat_drop {sz:Nat} {es:List AV} (h:∀e,e∈es→e.cells.length=sz) (k:Nat) (hk:k≤es.length):flat (es.drop k)=(flat es).drop (k*sz):=by
 have h1:flat es=flat (es.take k)++flat (es.drop k):=by rw [←flat_append,List.take_append_drop]
 have h2:(flat (es.take k)).length=k*sz:=by
  rw [flat_length (fun e he=>h e (List.mem_of_mem_take he)),List.length_take,Nat.min_eq_left hk]
 rw [h1,←h2,List.drop_left]
theorem HR.splice {bi:Bl} {es ys:List AV} (h:HR S β w bi es) (hS:¬S bi.blk) (hsub:∀b,S b→b<w.heap.size) {k:Nat} {news:List Value} (hk:k+ys.length≤es.length) (hys:∀e,e∈ys→e.cells.length=bi.sz) (k2:Each S β w news (flat ys)):
  ∃cur t,w.heap[bi.blk]? =some (.cells cur t (0,0))∧cur.size=bi.cap*bi.sz∧k*bi.sz+news.length≤cur.size∧
   HR S β (w.setRow bi.blk (cur.toList.take (k*bi.sz)++news++cur.toList.drop (k*bi.sz+news.length)).toArray) bi (es.take k++ys++es.drop (k+ys.length)):=by
 obtain ⟨cur,ty,r1,r2,r3,r4,r5,r6⟩:=h.flat_
 have hnl:news.length=ys.length*bi.sz:=by rw [k2.1,flat_length hys]
 have hcs:cur.toList.length=cur.size:=Array.length_toList
 have hfit0:es.length*bi.sz≤cur.size:=by rw [r2];exact Nat.mul_le_mul_right _ r3
 have hmul:k*bi.sz+ys.length*bi.sz≤es.length*bi.sz:=by rw [←Nat.add_mul];exact Nat.mul_le_mul_right _ hk
 have hfit:k*bi.sz+news.length≤cur.size:=by omega
 refine ⟨cur,ty,r1,r2,hfit,?_⟩
 have hT:Turns bi w (w.setRow bi.blk (cur.toList.take (k*bi.sz)++news++cur.toList.drop (k*bi.sz+news.length)).toArray):=setRow_turns bi.blk _ rfl
 have E0:Ext S S β β w (w.setRow bi.blk (cur.toList.take (k*bi.sz)++news++cur.toList.drop (k*bi.sz+news.length)).toArray):=
  ⟨fun _ h=>h,fun _ _ h=>h,fun b hb'=>hT.other b (hsub b hb') (fun e=>hS (e▸hb'))⟩
 have hlen:(es.take k++ys++es.drop (k+ys.length)).length=es.length:=by
  rw [List.length_append,List.length_append,List.length_take,List.length_drop];omega
 refine HR.of_flat (setRow_heap w bi.blk cur _ ty (0,0) r1) ?_ (by rw [hlen];exact r3) r4 (fun e he=> ?_) ?_
 ·rw [←r2]
  simp only [List.size_toArray,List.length_append,List.length_take,List.length_drop,Array.length_toList]
  omega
 ·rcases List.mem_append.1 he with he|he
  ·rcases List.mem_append.1 he with he|he
   ·exact r5 e (List.mem_of_mem_take he)
   ·exact hys e he
  ·exact r5 e (List.mem_of_mem_drop he)
 ·rw [hlen,flat_append,flat_append,flat_take r5 k (by omega),flat_drop r5 (k+ys.length) (by omega)]
  have hl1:(cur.toList.take (k*bi.sz)).length=k*bi.sz:=by rw [List.length_take,hcs];omega
  have h1:((cur.toList.take (k*bi.sz)++news++cur.toList.drop (k*bi.sz+news.length)).toArray.toList.take (es.length*bi.sz))=cur.toList.take (k*bi.sz)++news++(cur.toList.take (es.length*bi.sz)).drop ((k+ys.length)*bi.sz):=by
   have e1:k*bi.sz+news.length=(k+ys.length)*bi.sz:=by rw [hnl,Nat.add_mul]
   rw [List.toList_toArray,List.take_append,List.drop_take,e1]
   have e2:(cur.toList.take (k*bi.sz)++news).length=(k+ys.length)*bi.sz:=by rw [List.length_append,hl1,e1]
   rw [e2,List.take_of_length_le (by rw [e2,Nat.add_mul];omega)]
  rw [h1]
  have e3:cur.toList.take (k*bi.sz)=(cur.toList.take (es.length*bi.sz)).take (k*bi.sz):=by rw [List.take_take,Nat.min_eq_left (by omega)]
  have hfin:=(((r6.take (k*bi.sz)).append k2).append (r6.drop ((k+ys.length)*bi.sz))).mono E0
  rw [←e3] at hfin
  exact hfin
theorem made_flat {z:AV} {zv:Value} {sz:Nat} (hE:Each S β w zv.cells.toList z.cells) (hzs:zv.cells.size=sz) (g1:z.cells.length=sz) (g2:0<sz) (m:Nat):Each S β w (madeCells zv.cells (m*sz)).toList (flat (List.replicate m z)):=by
 have huni:∀e,e∈List.replicate m z→e.cells.length=sz:=by
  intro e he
  rw [(List.mem_replicate.1 he).2];exact g1
 have hsz:(madeCells zv.cells (m*sz)).size=m*sz:=by simp [madeCells]
 refine ⟨by rw [flat_length huni,List.length_replicate];simp [hsz],fun j v q hv hq=> ?_⟩
 have hj:j<m*sz:=by have:=(List.getElem?_eq_some_iff.1 hv).1;simpa [hsz] using this
 have hjm:j%sz<sz:=Nat.mod_lt _ g2
 have hjd:j/sz<m:=Nat.div_lt_of_lt_mul (by rw [Nat.mul_comm];exact hj)
 have hmd:j/sz*sz+j%sz=j:=by rw [Nat.mul_comm];exact Nat.div_add_mod j sz
 have hrep:(List.replicate m z)[j/sz]? =some z:=by rw [List.getElem?_replicate,if_pos hjd]
 have hf:=flat_get huni hrep hjm
 rw [hmd,hq] at hf
 have hzc:zv.cells.toList[j%sz]? =some (zv.cells[j%sz]'(by omega)):=by
  rw [Array.getElem?_toList];exact Array.getElem?_eq_getElem (by omega)
 have hvv:v=zv.cells[j%sz]'(by omega):=by
  rw [Array.getElem?_toList] at hv
  simp only [madeCells,Array.getElem?_map] at hv
  rw [Array.getElem?_range,if_pos hj] at hv
  simp only [Option.map_some] at hv
  injection hv with hv
  have e1:j%zv.cells.size=j%sz:=by rw [hzs]
  rw [←hv,e1,getElem!_pos zv.cells (j%sz) (by omega)]
 rw [hvv]
 exact hE.2 _ _ q hzc hf.symm
end
end
section
section
variable {P:Program} {F:Fr} {S:Blk} {β:Beta} {hp:List (Nat×Ob)} {w:World} {a:Act} {o:Oper} {res:Res} {rd:List Nat} {sc:List Dir}
theorem grow_row {d cap e:Nat} {z:Value} {i:TypeInfo} {es ys:List AV} {olds news:List Value} (M:Mem F S β hp w) (hd:look hp d=none) (hz:z.cells.size=i.size) (h1:∀e,e∈es→e.cells.length=i.size) (h2:∀e,e∈ys→e.cells.length=i.size)
  (k1:Each S β w olds (flat es)) (k2:Each S β w news (flat ys)) (hmax:es.length+ys.length≤maxLen):
  ∃S' β',Ext S S' β β' w (w.drew.alloc (.cells (olds.toArray++news.toArray++Builtin.zeroCells z.cells (grownCap w (es.length+ys.length) cap e-(es.length+ys.length))) e))∧
   Mem F S' β' (putL hp d (.row i.size (es++ys))) (w.drew.alloc (.cells (olds.toArray++news.toArray++Builtin.zeroCells z.cells (grownCap w (es.length+ys.length) cap e-(es.length+ys.length))) e))∧
   V S' β' (w.drew.alloc (.cells (olds.toArray++news.toArray++Builtin.zeroCells z.cells (grownCap w (es.length+ys.length) cap e-(es.length+ys.length))) e)) (.slice (some ⟨w.heap.size,0,none⟩) (es.length+ys.length) (grownCap w (es.length+ys.length) cap e)) (.row d 0 (es.length+ys.length)):=by
 have hge:=grownCap_ge w (es.length+ys.length) cap e
 have hcm:grownCap w (es.length+ys.length) cap e≤maxLen:=grownCap_le_maxLen w _ cap e hmax
 have M':Mem F S β hp w.drew:=M.heapEq rfl rfl rfl rfl
 have E0:Ext S S β β w w.drew:=⟨fun _ h=>h,fun _ _ h=>h,fun _ _=>rfl⟩
 have hol:olds.length=es.length*i.size:=by rw [k1.1,flat_length h1]
 have hnl:news.length=ys.length*i.size:=by rw [k2.1,flat_length h2]
 have huni:∀e,e∈es++ys→e.cells.length=i.size:=fun e he=>(List.mem_append.1 he).elim (h1 e) (h2 e)
 have hflat:Each S β w.drew ((olds.toArray++news.toArray++Builtin.zeroCells z.cells (grownCap w (es.length+ys.length) cap e-(es.length+ys.length))).toList.take ((es.length+ys.length)*i.size)) (flat (es++ys)):=by
  have:(olds.toArray++news.toArray++Builtin.zeroCells z.cells (grownCap w (es.length+ys.length) cap e-(es.length+ys.length))).toList.take ((es.length+ys.length)*i.size)=olds++news:=by
   simp only [Array.toList_append]
   have hl:(es.length+ys.length)*i.size=(olds++news).length:=by rw [List.length_append,hol,hnl,Nat.add_mul]
   rw [hl]
   exact List.take_left
  rw [this,flat_append]
  exact (k1.append k2).mono E0
 obtain ⟨S',β',E,M2,hv⟩:=new_row (d:=d) (n:=es.length+ys.length) (cap:=grownCap w (es.length+ys.length) cap e) (sz:=i.size) (es:=es++ys) (t:=e) M' hd (by simp)
  (by simp only [Array.size_append,List.size_toArray,size_zeroCells,hz,hol,hnl,←Nat.add_mul];congr 1;omega) hge hcm huni hflat
 exact ⟨S',β',E0.trans E,M2,hv⟩
theorem ok_append {t:TypeId} {d:Nat} {x y:Operand} {X Y:AV} (ho:o.op= .call ⟨.builtin .append,#[x,y],#[t,t]⟩) (M:Mem F S β hp w) (hx:V S β w (a.eval x) X) (hy:V S β w (a.eval y) Y)
  (hr:(appendA P d t X Y sc).run (look hp)=some (res,rd)) (hc:∀c,c∈res.cs→c.p) (hn:∀id,id∈res.new→look hp id=none):OpOK P F S β hp w a o res:=by
 have exec:∀{v:Value} {w':World},(Builtin.append_ #[t,t] o.type #[a.eval x,a.eval y]).run P w= .ok v w'→(execOp a.eval o).run P w= .ok (.value v) w':=by
  intro v w' h
  simp [execOp,ho,resolve,invoke,builtin,h]
 unfold appendA at hr
 cases hu:P.underlying t with
 |none=>rw [hu] at hr;cases hr
 |some ds=>
  rw [hu] at hr
  cases ds<;>first
   |(cases hr;done)
   |skip
  rename_i e
  simp only at hr
  cases hi:P.info? e with
  |none=>rw [hi] at hr;cases hr
  |some i=>
   cases hz:zeroA P e with
   |none=>rw [hi,hz] at hr;cases hr
   |some z=>
    rw [hi,hz] at hr
    simp only at hr
    by_cases hg:z.cells.length=i.size∧0<i.size∧¬isDead z=true
    ·rw [if_pos hg] at hr
     obtain ⟨g1,g2,g3⟩:=hg
     obtain ⟨i',zv,hi',hzv,hE⟩:=zero_each (S:=S) (β:=β) (w:=w) hz (by simpa using g3)
     rw [hi] at hi';injection hi' with hi';subst hi'
     have hzs:zv.cells.size=i.size:=by have:=hE.1;rw [g1] at this;simpa using this
     have same:∀{X:AV},V S β w (a.eval x) X→(∀v,V S β w v X→∃p n cap,v= .slice p n cap∧n≤cap)→(newsA Y fun ys q=>valIf X (q.p∧ys=[]) sc.tail).run (look hp)=some (res,rd)→OpOK P F S β hp w a o res:=by
      intro X hx hform hr
      obtain ⟨ys,q,rd',h1,h2⟩:=news_run M hr
      obtain ⟨e1,e2,_,e4⟩:=valIf_run h1
      obtain ⟨hq,hys⟩:=hc _ (by rw [e4];exact List.mem_singleton.2 rfl)
      subst hys
      obtain ⟨p',c,hvy,_⟩:=h2 _ i.size hy hq (by simp)
      obtain ⟨p,n,cap,hvx,hle⟩:=hform _ hx
      refine ok_same M (v:=a.eval x) (exec ?_) e2 (by rw [e1];exact hx)
      rw [hvx,hvy]
      exact append_same hu hi o.type p n cap hle p' c
     split at hr
     ·rename_i es c sc'
      refine same hx (fun v hv=> ?_) hr
      cases hv with
      |seq p cap sz b q _ _ U hcap hmax hclip hp' hsz hcc hvv=>exact ⟨p,es.length,cap,rfl,hcap⟩
     ·rename_i id off len sc'
      refine same hx (fun v hv=> ?_) hr
      cases hv with
      |row _ _ _ ad bi hb hle ha=>exact ⟨some ad,len,bi.cap-off,rfl,by omega⟩
     ·rename_i es sc'
      obtain ⟨ys,q,rd',h1,h2⟩:=news_run M hr
      injection h1 with h1;injection h1 with h1 _;subst h1
      obtain ⟨hq,hne,hok,hoke,hby,hmax⟩:=hc _ (List.mem_singleton.2 rfl)
      have hu1:∀e,e∈ys→e.cells.length=i.size:=fun e he=>(hok e he).1
      have hu2:∀e,e∈es→e.cells.length=i.size:=fun e he=>(hoke e he).1
      obtain ⟨p',c,hvy,hnews⟩:=h2 _ i.size hy hq hu1
      obtain ⟨ad,news,rfl,k2,hcn⟩:=hnews hne
      have hnl:news.length=ys.length*i.size:=by rw [k2.1,flat_length hu1]
      have hyl:0<ys.length:=List.length_pos_iff.2 hne
      have hby':(es.length+ys.length)*i.bytes≤140737488355328:=by
       have:(((es.length+ys.length)*i.bytes:Nat):Int)≤140737488355328:=by rw [Int.natCast_mul];exact hby
       omega
      have hsrc:=news_run (res:={v:= .dead,sc:=[]}) (rd:=[]) (k:=fun _ _=> .ret {v:= .dead,sc:=[]}) (y:= .seq es true) M rfl
      obtain ⟨es',q',rd'',_,hsrc⟩:=hsrc
      generalize hvx:a.eval x=vx at hx exec
      cases hx with
      |seq p cap sz b q0 _ _ U hcap hmx hclip hp' hsz hcc hvv=>
       have hcape:=hclip rfl
       subst hcape
       by_cases hes:es=[]
       ·subst hes
        have k1:Each S β w [] (flat []):=⟨rfl,by simp⟩
        obtain ⟨S',β',E,M',hv⟩:=grow_row (d:=d) (cap:=0) (e:=e) (z:=zv) (i:=i) (es:=[]) (ys:=ys) M (hn d (by simp)) hzs (by simp) hu1 k1 k2 (by simpa using hmax)
        simp only [List.length_nil,Nat.zero_add,List.nil_append] at E M' hv hby'⊢
        cases p with
        |none=>
         refine ok_value (exec ?_) E (by simpa [putAll] using M') (by simpa using hv)
         rw [hvy]
         have:=run_append_nil (P:=P) w t o.type e i zv hu hi hzv ad ys.length c news hnl (fun j v h=>hcn j v h) hyl (by simp only [maxLen] at hmax;simp at hmax;omega) (by omega)
         simpa using this
        |some bp=>
         refine ok_value (exec ?_) E (by simpa [putAll] using M') (by simpa using hv)
         rw [hvy]
         have:=run_append_grow (P:=P) w t o.type e i zv hu hi hzv bp 0 0 [] (by simp) (by simp) ad ys.length c news hnl (fun j v h=>hcn j v h) (by omega) (by simp only [maxLen] at hmax;simp at hmax⊢;omega)
          (growslice_fits (by omega) (by simpa using hby'))
         simpa using this
       ·obtain ⟨rfl,hS⟩:=hp' hes
        have hV:V S β w (.slice (some ⟨b,q0,none⟩) es.length es.length) (.seq es true):= .seq _ es.length sz b q0 es true U hcap hmx hclip (fun _=>⟨rfl,hS⟩) hsz hcc hvv
        obtain ⟨es2,q2,rd2,hk2,hsrc2⟩:=news_run (res:={v:= .tup es,cs:=[mkC True],sc:=[]}) (rd:=[]) (k:=fun l q=> .ret {v:= .tup l,cs:=[q],sc:=[]}) (y:= .seq es true) M rfl
        injection hk2 with hk2;injection hk2 with hk2 _;injection hk2 with hk3 _ _ hk4 _
        injection hk3 with hk3
        subst hk3
        injection hk4 with hk4 _
        obtain ⟨p2,c2,hv2,hn2⟩:=hsrc2 _ i.size hV (by rw [hk4];trivial) hu2
        obtain ⟨ad2,olds,hp2,k1,hco⟩:=hn2 hes
        injection hv2 with hv2 _ _
        rw [hp2] at hv2
        injection hv2 with hv2
        subst hv2
        obtain ⟨S',β',E,M',hv⟩:=grow_row (d:=d) (cap:=es2.length) (e:=e) (z:=zv) (i:=i) (es:=es2) (ys:=ys) M (hn d (by simp)) hzs hu2 hu1 k1 k2 hmax
        refine ok_value (exec ?_) E (by simpa [putAll] using M') hv
        rw [hvy]
        exact run_append_grow (P:=P) w t o.type e i zv hu hi hzv ⟨b,q0,none⟩ es2.length es2.length olds (by rw [k1.1,flat_length hu2]) (fun j v h=>hco j v h) ad ys.length c news hnl (fun j v h=>hcn j v h) (by omega) (by simp only [maxLen] at hmax;omega)
         (growslice_fits (by omega) hby')
     ·rename_i id off len s0 sc'
      simp only [Rd.run] at hr
      cases hl:look hp id with
      |none=>rw [hl] at hr;cases hr
      |some ob=>
       rw [hl] at hr
       have hob:=M.obs id ob hl
       cases ob with
       |row sz es=>
        simp only at hr
        split at hr
        ·rename_i r1 l1 hk
         injection hr with hr;injection hr with hr1 hr2
         subst hr1
         obtain ⟨ys,q,rd',h1,h2⟩:=news_run M hk
         by_cases hsz:sz=i.size
         ·rw [if_pos hsz] at h1
          injection h1 with h1;injection h1 with h1 _;subst h1
          obtain ⟨hq,hoff,hlen,hok,hne⟩:=hc _ (List.mem_singleton.2 rfl)
          subst hoff;subst hsz
          have hu1:∀e,e∈ys→e.cells.length=i.size:=fun e he=>(hok e he).1
          obtain ⟨p',c,hvy,hnews⟩:=h2 _ i.size hy hq hu1
          obtain ⟨ad,news,rfl,k2,hcn⟩:=hnews hne
          have hnl:news.length=ys.length*i.size:=by rw [k2.1,flat_length hu1]
          have hyl:0<ys.length:=List.length_pos_iff.2 hne
          obtain ⟨bj,q1,q2,q3⟩:=hob
          generalize hvx:a.eval x=vx at hx exec
          cases hx with
          |row _ _ _ adx bi hb hle ha=>
           rw [hb] at q1;injection q1 with q1;subst q1
           obtain ⟨cur,ty,r1,r2,r3,r4⟩:=q3.splice (M.own id bi hb).1 M.sub (k:=len) (news:=news) hlen (by rw [q2];exact hu1) k2
           have hcap:es.length≤bi.cap:=by obtain ⟨_,_,_,_,h,_⟩:=q3;exact h
           have hadx:adx=⟨bi.blk,0,none⟩:=by have:=ha (by omega);simpa using this
           rw [q2] at r3 r4
           obtain ⟨E,M'⟩:=M.turn hb hl (by simp) (setRow_turns bi.blk _ rfl) (.row i.size (es.take len++ys++es.drop (len+ys.length))) ⟨bi,hb,q2,r4⟩ (fun j a b h=>by cases h)
           refine ok_value (exec ?_) E (by simpa [putAll] using M') (.row id 0 (len+ys.length) ⟨bi.blk,0,none⟩ bi hb (by omega) (fun _=>by simp))
           rw [hvy,hadx]
           exact append_room hu hi o.type ty bi.blk len (bi.cap-0) cur r1 ad ys.length c news hnl (fun j v h=>hcn j v h) (k2.one (flat_solid hok)) (by omega) r3
         ·rw [if_neg hsz] at h1;cases h1
        ·cases hr
       |_=>cases hr
     ·rename_i id off len sc'
      simp only [Rd.run] at hr
      cases hl:look hp id with
      |none=>rw [hl] at hr;cases hr
      |some ob=>
       rw [hl] at hr
       have hob:=M.obs id ob hl
       cases ob with
       |row sz es=>
        simp only at hr
        split at hr
        ·rename_i r1 l1 hk
         injection hr with hr;injection hr with hr1 hr2
         subst hr1
         obtain ⟨ys,q,rd',h1,h2⟩:=news_run M hk
         by_cases hsz:sz=i.size∧(id<mid∨mid≤d)
         ·rw [if_pos hsz] at h1
          obtain ⟨hsz,hid⟩:=hsz
          injection h1 with h1;injection h1 with h1 _;subst h1
          obtain ⟨hq,hoff,hlen,hok,hoke,hby,hmax⟩:=hc _ (List.mem_singleton.2 rfl)
          subst hoff;subst hlen;subst hsz
          have hu1:∀e,e∈ys→e.cells.length=i.size:=fun e he=>(hok e he).1
          have hu2:∀e,e∈es→e.cells.length=i.size:=fun e he=>(hoke e he).1
          obtain ⟨p',c,hvy,hnews⟩:=h2 _ i.size hy hq hu1
          have hby':(es.length+ys.length)*i.bytes≤140737488355328:=by
           have:(((es.length+ys.length)*i.bytes:Nat):Int)≤140737488355328:=by rw [Int.natCast_mul];exact hby
           omega
          obtain ⟨bj,q1,q2,q3⟩:=hob
          have hnd:look hp d=none:=hn d (by simp)
          generalize hvx:a.eval x=vx at hx exec
          cases hx with
          |row _ _ _ adx bi hb hle ha=>
           rw [hb] at q1;injection q1 with q1;subst q1
           obtain ⟨cur,ty,r1,r2,r3,r4,r5,r6⟩:=q3.flat_
           rw [q2] at r2 r5 r6
           rw [Nat.zero_add] at hle
           by_cases hroom:es.length+ys.length≤bi.cap
           ·
            have hnewlist:∃news,Each S β w news (flat ys)∧(Builtin.append_ #[t,t] o.type #[.slice (some adx) es.length (bi.cap-0),a.eval y]).run P w= .ok (.slice (some adx) (es.length+ys.length) (bi.cap-0)) (w.setRow bi.blk (cur.toList.take (es.length*i.size)++news++cur.toList.drop (es.length*i.size+news.length)).toArray):=by
             by_cases hye:ys=[]
             ·subst hye
              refine ⟨[],⟨rfl,by simp⟩,?_⟩
              rw [hvy,List.length_nil,append_same hu hi o.type (some adx) es.length (bi.cap-0) (by omega) p' c]
              simp only [Nat.add_zero,List.append_nil,List.length_nil,List.take_append_drop,Array.toArray_toList]
              rw [setRow_self w bi.blk cur ty (0,0) r1]
             ·obtain ⟨ad,news,rfl,k2,hcn⟩:=hnews hye
              have hnl:news.length=ys.length*i.size:=by rw [k2.1,flat_length hu1]
              refine ⟨news,k2,?_⟩
              have hyl:0<ys.length:=List.length_pos_iff.2 hye
              have hadx:adx=⟨bi.blk,0,none⟩:=by have:=ha (by omega);simpa using this
              rw [hvy,hadx]
              exact append_room hu hi o.type ty bi.blk es.length (bi.cap-0) cur r1 ad ys.length c news hnl (fun j v h=>hcn j v h) (k2.one (flat_solid hok)) (by omega)
               (by rw [hnl,r2,←Nat.add_mul];exact Nat.mul_le_mul_right _ hroom)
            obtain ⟨news,k2,hrun⟩:=hnewlist
            have hnl:news.length=ys.length*i.size:=by rw [k2.1,flat_length hu1]
            have hfit:es.length*i.size+news.length≤cur.size:=by rw [hnl,r2,←Nat.add_mul];exact Nat.mul_le_mul_right _ hroom
            have hT:Turns bi w (w.setRow bi.blk (cur.toList.take (es.length*i.size)++news++cur.toList.drop (es.length*i.size+news.length)).toArray):=setRow_turns bi.blk _ rfl
            have hagr:Agr S w (w.setRow bi.blk (cur.toList.take (es.length*i.size)++news++cur.toList.drop (es.length*i.size+news.length)).toArray):=
             fun b hb'=>hT.other b (M.sub b hb') (fun e=>(M.own id bi hb).1 (e▸hb'))
            have E0:Ext S S β (β.add d bi) w (w.setRow bi.blk (cur.toList.take (es.length*i.size)++news++cur.toList.drop (es.length*i.size+news.length)).toArray):=⟨fun _ h=>h,Beta.add_ext (M.beta_none hnd),hagr⟩
            have hob':HO S (β.add d bi) (w.setRow bi.blk (cur.toList.take (es.length*i.size)++news++cur.toList.drop (es.length*i.size+news.length)).toArray) d (.row i.size (es++ys)):=by
             refine ⟨bi,Beta.add_same _ _ _,q2,HR.of_flat (setRow_heap w bi.blk cur _ ty (0,0) r1) ?_ (by simpa using hroom) r4 (fun e he=> ?_) ?_⟩
             ·rw [q2,←r2]
              simp only [List.size_toArray,List.length_append,List.length_take,List.length_drop,Array.length_toList]
              omega
             ·rw [q2];exact (List.mem_append.1 he).elim (hu2 e) (hu1 e)
             ·rw [q2,List.length_append,flat_append]
              have:((cur.toList.take (es.length*i.size)++news++cur.toList.drop (es.length*i.size+news.length)).toArray.toList.take ((es.length+ys.length)*i.size))=cur.toList.take (es.length*i.size)++news:=by
               have hl2:(es.length+ys.length)*i.size=(cur.toList.take (es.length*i.size)++news).length:=by
                have hcs:cur.toList.length=cur.size:=Array.length_toList
                rw [List.length_append,List.length_take,hcs,hnl,Nat.add_mul,Nat.min_eq_left (by omega)]
               rw [hl2]
               exact List.take_left
              rw [this]
              exact (r6.append k2).mono E0
            obtain ⟨E,M'⟩:=M.adopt hid hb hl (by simp) hnd rfl hT (.row i.size (es++ys)) hob' (fun j a b h=>by cases h)
            refine ok_value (exec hrun) E (by simpa [putAll] using M') ?_
            exact .row d 0 (es.length+ys.length) adx bi (Beta.add_same _ _ _) (by omega) ha
           ·
            have hye:ys≠[]:=by rintro rfl;simp at hroom;omega
            obtain ⟨ad,news,rfl,k2,hcn⟩:=hnews hye
            have hnl:news.length=ys.length*i.size:=by rw [k2.1,flat_length hu1]
            have hol:(cur.toList.take (es.length*i.size)).length=es.length*i.size:=by rw [r6.1,flat_length hu2]
            have M1:=M.kill (id:=id) ⟨_,hl⟩
            have hnd1:look (putL hp id .dead) d=none:=by
             rw [look_put,if_neg]
             ·exact hnd
             ·rintro rfl;rw [hl] at hnd;cases hnd
            obtain ⟨S',β',E,M',hv⟩:=grow_row (d:=d) (cap:=bi.cap) (e:=e) (z:=zv) (i:=i) (es:=es) (ys:=ys) M1 hnd1 hzs hu2 hu1 r6 k2 hmax
            refine ok_value (exec ?_) E (by simpa [putAll] using M') hv
            rw [hvy,Nat.sub_zero]
            refine run_append_grow (P:=P) w t o.type e i zv hu hi hzv adx es.length bi.cap _ hol (fun j v h=> ?_) ad ys.length c news hnl (fun j v h=>hcn j v h) (by omega) (by simp only [maxLen] at hmax;omega) (growslice_fits (by omega) hby')
            have hj:j<es.length*i.size:=by rw [←hol];exact (List.getElem?_eq_some_iff.1 h).1
            have hpos:0<es.length:=by
             rcases Nat.eq_zero_or_pos es.length with h0|h0
             ·rw [h0] at hj;simp at hj
             ·exact h0
            have hadx:adx=⟨bi.blk,0,none⟩:=by have:=ha (by omega);simpa using this
            rw [hadx,Addr.add_lit,Nat.zero_add,cell_row r1]
            rw [List.getElem?_take,if_pos hj,Array.getElem?_toList] at h
            exact h
         ·rw [if_neg hsz] at h1;cases h1
        ·cases hr
       |_=>cases hr
     ·cases hr
    ·rw [if_neg hg] at hr;cases hr
end
end
section
section
variable {P:Program} {F:Fr} {S:Blk} {β:Beta} {hp:List (Nat×Ob)} {w:World} {a:Act} {o:Oper} {res:Res} {rd:List Nat} {sc:List Dir}
theorem ok_clear {t:TypeId} {x:Operand} {X:AV} (ho:o.op= .call ⟨.builtin .clear,#[x],#[t]⟩) (M:Mem F S β hp w) (hx:V S β w (a.eval x) X) (hr:(clearA P t X sc).run (look hp)=some (res,rd)) (hc:∀c,c∈res.cs→c.p):
  OpOK P F S β hp w a o res:=by
 have exec:∀{v:Value} {w':World},(Builtin.clear_ #[t] o.type #[a.eval x]).run P w= .ok v w'→(execOp a.eval o).run P w= .ok (.value v) w':=by
  intro v w' h
  simp [execOp,ho,resolve,invoke,builtin,h]
 unfold clearA at hr
 cases hu:P.underlying t with
 |none=>rw [hu] at hr;cases hr
 |some ds=>
  rw [hu] at hr
  cases ds<;>first
   |(cases hr;done)
   |skip
  rename_i e
  simp only at hr
  cases hz:zeroA P e with
  |none=>rw [hz] at hr;cases hr
  |some z=>
   cases hs:sizeA P e with
   |none=>rw [hz,hs] at hr;cases hr
   |some size=>
    rw [hz,hs] at hr
    simp only at hr
    split at hr
    ·obtain ⟨e1,e2,_,_⟩:=val_run hr
     generalize hvx:a.eval x=vx at hx exec
     have hv:∃p c,vx= .slice p 0 c:=by
      cases hx with
      |seq p cap sz b q _ _ U hcap hmax hclip hp' hsz hcc hvv=>exact ⟨p,cap,rfl⟩
     obtain ⟨p,c,rfl⟩:=hv
     refine ok_same M (v:= .tuple #[]) (exec ?_) e2 (by rw [e1];exact .tup [] [] rfl (by simp))
     cases p<;>simp [Builtin.clear_,run_underlying hu]
    ·rename_i id off len
     simp only [Rd.run] at hr
     cases hl:look hp id with
     |none=>rw [hl] at hr;cases hr
     |some ob=>
      rw [hl] at hr
      have hob:=M.obs id ob hl
      cases ob with
      |row sz es=>
       simp only at hr
       by_cases hg:sz=size∧z.cells.length=size∧0<size∧z.cells.all solid=true
       ·rw [if_pos hg] at hr
        obtain ⟨g1,g2,hp0,g3⟩:=hg
        injection hr with hr;injection hr with hr _;subst hr
        have hle:=hc _ (List.mem_singleton.2 rfl)
        simp only [] at hle
        obtain ⟨i,zv,hi,hzv,hE⟩:=zero_each (S:=S) (β:=β) (w:=w) hz (by cases z<;>first|rfl|(simp [AV.cells,solid] at g3))
        have hisz:i.size=size:=by unfold sizeA at hs;rw [hi] at hs;simpa using hs
        have hzs:zv.cells.size=size:=by have:=hE.1;rw [g2] at this;simpa using this
        obtain ⟨bj,q1,q2,q3⟩:=hob
        generalize hvx:a.eval x=vx at hx exec
        cases hx with
        |row _ _ _ ad bi hb hlb ha=>
         rw [hb] at q1;injection q1 with q1;subst q1
         by_cases h0:len=0
         ·subst h0
          refine ok_value (v:= .tuple #[]) (w':=w) (exec (by simp [Builtin.clear_,run_underlying hu])) (.refl _ _ _) ?_ (.tup [] [] rfl (by simp))
          have:(es.take off++List.replicate 0 z++es.drop (off+0))=es:=by simp
          rw [this]
          obtain ⟨E,M'⟩:=M.turn (w':=w) hb hl (by simp) ⟨rfl,rfl,rfl,Nat.le_refl _,fun _ _ _=>rfl⟩ (.row sz es) ⟨bi,hb,q2,q3⟩ (fun j a b h=>by cases h)
          simpa [putAll] using M'
         ·have hmade:=made_flat (S:=S) (β:=β) (w:=w) hE hzs g2 hp0 len
          obtain ⟨cur,ty,r1,r2,r3,r4⟩:=q3.splice (M.own id bi hb).1 M.sub (k:=off) (ys:=List.replicate len z) (by simpa using hle) (by intro e he;rw [(List.mem_replicate.1 he).2,q2,g1];exact g2) hmade
          rw [List.length_replicate] at r4
          obtain ⟨E,M'⟩:=M.turn hb hl (by simp) (setRow_turns bi.blk _ rfl) (.row sz (es.take off++List.replicate len z++es.drop (off+len))) ⟨bi,hb,q2,r4⟩ (fun j a b h=>by cases h)
          refine ok_value (v:= .tuple #[]) (exec ?_) E (by simpa [putAll] using M') (.tup [] [] rfl (by simp))
          have hcap:es.length≤bi.cap:=by obtain ⟨_,_,_,_,h,_⟩:=q3;exact h
          have had:=ha (by omega)
          have hone:∀v,v∈(madeCells zv.cells (len*size)).toList→v.oneCell'=true:=by
           intro v hv
           have hsol:∀c,c∈flat (List.replicate len z)→solid c=true:=by
            intro c hcm
            simp only [flat,List.mem_flatten,List.mem_map] at hcm
            obtain ⟨l,⟨e,he,rfl⟩,hcl⟩:=hcm
            rw [(List.mem_replicate.1 he).2] at hcl
            exact List.all_eq_true.1 g3 c hcl
           exact hmade.one hsol v hv
          have hst:=run_storeCells_at P bi.blk (off*bi.sz) ty (madeCells zv.cells (len*size)).toList 0 cur w r1 (by simpa using r3) hone
          simp only [Nat.add_zero] at hst
          have hzc:Builtin.zeroCells zv.cells len=madeCells zv.cells (len*size):=by rw [←hzs];rfl
          obtain ⟨m,rfl⟩:∃m,len=m+1:=⟨len-1,by omega⟩
          simp [Builtin.clear_,run_underlying hu,zeroValue,typeInfo,hi,hzv,hzc,had,hst]
       ·rw [if_neg hg] at hr;cases hr
      |_=>cases hr
    ·cases hr
theorem ok_max {x y:Operand} {t u:TypeId} {k k':IntKind} {p q:Int} (ho:o.op= .call ⟨.builtin .max,#[x,y],#[t,u]⟩) (M:Mem F S β hp w) (hx:V S β w (a.eval x) (.int k p)) (hy:V S β w (a.eval y) (.int k' q))
  (hr:(val (.int k (if q>p then q else p)) sc).run (look hp)=some (res,rd)):OpOK P F S β hp w a o res:=by
 obtain ⟨e1,e2,_,_⟩:=val_run hr
 generalize hvx:a.eval x=vx at hx
 generalize hvy:a.eval y=vy at hy
 cases hx;cases hy
 refine ok_same M (v:= .int k (if q>p then q else p)) ?_ e2 (by rw [e1];exact .int _ _)
 simp [execOp,ho,resolve,invoke,builtin,hvx,hvy,Builtin.max_,Builtin.max2]
theorem ok_min {x y:Operand} {t u:TypeId} {k k':IntKind} {p q:Int} (ho:o.op= .call ⟨.builtin .min,#[x,y],#[t,u]⟩) (M:Mem F S β hp w) (hx:V S β w (a.eval x) (.int k p)) (hy:V S β w (a.eval y) (.int k' q))
  (hr:(val (.int k (if q<p then q else p)) sc).run (look hp)=some (res,rd)):OpOK P F S β hp w a o res:=by
 obtain ⟨e1,e2,_,_⟩:=val_run hr
 generalize hvx:a.eval x=vx at hx
 generalize hvy:a.eval y=vy at hy
 cases hx;cases hy
 refine ok_same M (v:= .int k (if q<p then q else p)) ?_ e2 (by rw [e1];exact .int _ _)
 simp [execOp,ho,resolve,invoke,builtin,hvx,hvy,Builtin.min_,Builtin.min2]
end
end
section
section
variable {P:Program} {F:Fr} {S:Blk} {β:Beta} {hp:List (Nat×Ob)} {w:World} {a:Act} {o:Oper} {res:Res} {rd:List Nat} {sc:List Dir}
theorem keyTy_some {t k e:TypeId} {s:Bool} (h:keyTy P t=some (k,e,s)):P.underlying t=some (.map k e)∧((s=true∧P.underlying k=some .string)∨(s=false∧∃q,P.underlying k=some (.int q))):=by
 unfold keyTy at h
 split at h
 ·rename_i k' e' hu
  split at h
  ·rename_i hk;injection h with h;simp only [Prod.mk.injEq] at h;obtain ⟨rfl,rfl,rfl⟩:=h;exact ⟨hu,.inl ⟨rfl,hk⟩⟩
  ·rename_i q hk;injection h with h;simp only [Prod.mk.injEq] at h;obtain ⟨rfl,rfl,rfl⟩:=h;exact ⟨hu,.inr ⟨rfl,q,hk⟩⟩
  ·cases h
 ·cases h
def KeyD (s:Bool) (d:TypeDesc):Prop:=(s=true∧d= .string)∨(s=false∧∃q,d= .int q)
theorem beq_bytes (p q:ByteArray):(p==q)=decide (p=q):=by
 have h:(p==q)=(p.data==q.data):=rfl
 rw [h]
 by_cases e:p.data=q.data
 ·have:p=q:=ByteArray.ext e
  simp [this]
 ·have:p≠q:=fun h=>e (h▸rfl)
  simp [e,this]
theorem same_sound {s b:Bool} {d:TypeDesc} (hd:KeyD s d) {u v:Value} {x y:AV} (hx:V S β w u x) (hy:V S β w v y) (h:sameA s x y=some b):Instr.sameNow d u v=some b∧(b=true→u=v∧x=y):=by
 unfold sameA at h
 split at h
 ·rename_i k p k' q
  split at h
  ·rename_i hk
   obtain ⟨hs,rfl⟩:=hk
   injection h with h
   cases hx;cases hy
   rcases hd with ⟨h1,_⟩|⟨_,q',rfl⟩
   ·rw [hs] at h1;cases h1
   ·subst h
    refine ⟨by simp [Instr.sameNow];exact Bool.beq_eq_decide_eq ..,fun hb=> ?_⟩
    have:=of_decide_eq_true hb
    subst this
    exact ⟨rfl,rfl⟩
  ·cases h
 ·rename_i p q
  split at h
  ·rename_i hs
   injection h with h
   cases hx;cases hy
   rcases hd with ⟨_,rfl⟩|⟨h1,_⟩
   ·subst h
    refine ⟨?_,fun hb=> ?_⟩
    ·simp only [Instr.sameNow]
     rw [beq_bytes]
    ·have:=of_decide_eq_true hb
     subst this
     exact ⟨rfl,rfl⟩
   ·rw [hs] at h1;cases h1
  ·cases h
 ·cases h
theorem find_sound {s:Bool} {d:TypeDesc} (hd:KeyD s d) {u:Value} {x:AV} (hx:V S β w u x):∀(ks:List AV) (es:List MapEntry) (i:Nat) {r:Option Nat},ks.length=es.length→
  (∀(j:Nat) e k,es[j]? =some e→ks[j]? =some k→V S β w e.key k)→findA s x ks i=some r→
  (r=none∧Instr.findNow d u es i=some none)∨∃j e,r=some (i+j)∧es[j]? =some e∧e.key=u∧ks[j]? =some x∧Instr.findNow d u es i=some (some (i+j,e.val))
 |[],[],i,r,_,_,h=>by
  simp only [findA] at h
  injection h with h
  exact .inl ⟨h.symm,rfl⟩
 |[],_::_,i,r,hl,_,_=>by simp at hl
 |_::_,[],i,r,hl,_,_=>by simp at hl
 |k::ks,e::es,i,r,hl,hv,h=>by
  simp only [findA] at h
  have hk:=hv 0 e k rfl rfl
  cases hs:sameA s x k with
  |none=>rw [hs] at h;cases h
  |some b=>
   rw [hs] at h
   obtain ⟨h1,h2⟩:=same_sound hd hx hk hs
   cases b with
   |true=>
    simp only at h
    injection h with h
    obtain ⟨e1,e2⟩:=h2 rfl
    exact .inr ⟨0,e,by simpa using h.symm,rfl,e1.symm,by rw [e2];rfl,by simp [Instr.findNow,h1]⟩
   |false=>
    simp only at h
    rcases find_sound hd hx ks es (i+1) (by simpa using hl) (fun j e k a b=>hv (j+1) e k (by simpa using a) (by simpa using b)) h with ⟨r1,r2⟩|⟨j,e',r1,r2,r3,r4,r5⟩
    ·exact .inl ⟨r1,by simp [Instr.findNow,h1,r2]⟩
    ·refine .inr ⟨j+1,e',by rw [r1];congr 1;omega,by simpa using r2,r3,by simpa using r4,?_⟩
     simp only [Instr.findNow,h1,r5]
     congr 3
     omega
theorem run_checkKeyA {kt:TypeId} {s:Bool} (hk:(s=true∧P.underlying kt=some .string)∨(s=false∧∃q,P.underlying kt=some (.int q))) (em:Bool) (v:Value):(Instr.checkKey em 10000 kt v).run P w= .ok () w:=by
 show (Instr.checkKey em (9999+1) kt v).run P w= .ok () w
 rcases hk with ⟨_,h⟩|⟨_,q,h⟩
 ·rw [Instr.checkKey];simp [run_underlying h]
 ·rw [Instr.checkKey];simp [run_underlying h]
theorem keyD_of {kt:TypeId} {s:Bool} (hk:(s=true∧P.underlying kt=some .string)∨(s=false∧∃q,P.underlying kt=some (.int q))):∃d,P.underlying kt=some d∧KeyD s d:=by
 rcases hk with ⟨h,h'⟩|⟨h,q,h'⟩
 ·exact ⟨_,h',.inl ⟨h,rfl⟩⟩
 ·exact ⟨_,h',.inr ⟨h,q,rfl⟩⟩
theorem run_findKeyA {kt:TypeId} {d:TypeDesc} {u:Value} {es:Array MapEntry} {r:Option (Nat×Value)} (hd:P.underlying kt=some d) (h:Instr.findNow d u es.toList 0=some r):(Instr.findKey kt u es.toList).run P w= .ok r w:=by
 simp [Instr.findKey,run_underlying hd,h]
theorem out_sound {ok b:Bool} {v:Value} {x:AV} (h:V S β w v x):V S β w (if ok then .tuple #[v,.bool b] else v) (outA ok x b):=by
 cases ok with
 |false=>simpa [outA] using h
 |true=>
  simp only [outA,if_true,cond_true]
  refine .tup [v,.bool b] [x,.bool b] rfl fun i u c h1 h2=> ?_
  match i with
  |0=>simp at h1 h2;subst h1;subst h2;exact h
  |1=>simp at h1 h2;subst h1;subst h2;exact .bool b
  |i+2=>simp at h1
theorem foundA_cases {e:TypeId} {ok:Bool} {vs:List AV} {r:Option (Option Nat)} (h:(foundA P e ok vs r sc).run (look hp)=some (res,rd)) (hc:∀c,c∈res.cs→c.p):
  (∃j v,r=some (some j)∧vs[j]? =some v∧res.v=outA ok v true∧res.upd=[])∨(∃z,r=some none∧zeroA P e=some z∧res.v=outA ok z false∧res.upd=[]):=by
 unfold foundA at h
 split at h
 ·injection h with h;injection h with h _;subst h
  obtain ⟨j,h1,h2⟩:=hc _ (List.mem_singleton.2 rfl)
  exact .inl ⟨j,_,h1,h2,rfl,rfl⟩
 ·split at h
  ·rename_i z hz
   injection h with h;injection h with h _;subst h
   exact .inr ⟨z,hc _ (List.mem_singleton.2 rfl),hz,rfl,rfl⟩
  ·cases h
 ·split at h
  ·rename_i i
   split at h
   ·rename_i v hv
    obtain ⟨e1,e2,_,_⟩:=val_run h
    exact .inl ⟨i,v,rfl,hv,e1,e2⟩
   ·cases h
  ·split at h
   ·rename_i z hz
    obtain ⟨e1,e2,_,_⟩:=val_run h
    exact .inr ⟨z,rfl,hz,e1,e2⟩
   ·cases h
  ·cases h
theorem ok_lookup {t:TypeId} {x y:Operand} {ok:Bool} {m k:AV} (ho:o.op= .lookup t x y ok) (M:Mem F S β hp w) (hm:V S β w (a.eval x) m) (hk:V S β w (a.eval y) k) (hr:(lookupA P t m k ok sc).run (look hp)=some (res,rd)) (hc:∀c,c∈res.cs→c.p):
  OpOK P F S β hp w a o res:=by
 unfold lookupA at hr
 cases hkt:keyTy P t with
 |none=>rw [hkt] at hr;cases hr
 |some q=>
  obtain ⟨kt,e,s⟩:=q
  rw [hkt] at hr
  obtain ⟨hu,hkk⟩:=keyTy_some hkt
  obtain ⟨d,hd,hKD⟩:=keyD_of hkk
  simp only at hr
  have main:∀{es:Array MapEntry} {ks vs:List AV} {rd':List Nat},(∀j v,Instr.findNow d (a.eval y) es.toList 0=some (some (j,v))→(Instr.lookup t (a.eval x) (a.eval y) ok).run P w= .ok (if ok then .tuple #[v,.bool true] else v) w)→
    (∀z,Instr.findNow d (a.eval y) es.toList 0=some none→(zeroValue e).run P w= .ok z w→(Instr.lookup t (a.eval x) (a.eval y) ok).run P w= .ok (if ok then .tuple #[z,.bool false] else z) w)→ks.length=es.size→vs.length=es.size→(∀(i:Nat) e k,es[i]? =some e→ks[i]? =some k→V S β w e.key k)→
    (∀(i:Nat) e v,es[i]? =some e→vs[i]? =some v→V S β w e.val v)→(foundA P e ok vs (findA s k ks 0) sc).run (look hp)=some (res,rd')→OpOK P F S β hp w a o res:=by
   intro es ks vs rd' hsm hno hl1 hl2 hkv hvv hr
   rcases foundA_cases hr hc with ⟨j,v,hf,hv,e1,e2⟩|⟨z,hf,hz,e1,e2⟩
   ·rcases find_sound hKD hk ks es.toList 0 (by simpa using hl1) (fun j e k a b=>hkv j e k (by simpa using a) b) hf with ⟨hh,_⟩|⟨j',en,hj,he,hke,hkx,hn⟩
    ·cases hh
    ·injection hj with hj
     rw [Nat.zero_add] at hj hn
     subst hj
     have hV:=hvv j en v (by simpa using he) hv
     refine ok_same M (v:=if ok then .tuple #[en.val,.bool true] else en.val) ?_ e2 (by rw [e1];exact out_sound hV)
     have hrun:=hsm _ _ hn
     simp [execOp,ho,hrun]
   ·rcases find_sound hKD hk ks es.toList 0 (by simpa using hl1) (fun j e k a b=>hkv j e k (by simpa using a) b) hf with ⟨_,hn⟩|⟨j',en,hj,_⟩
    ·obtain ⟨zv,hz1,hz2,_⟩:=zero_of (P:=P) (S:=S) (β:=β) (w:=w) hz
     refine ok_same M (v:=if ok then .tuple #[zv,.bool false] else zv) ?_ e2 (by rw [e1];exact out_sound hz2)
     have hrun:=hno zv hn hz1
     simp [execOp,ho,hrun]
    ·cases hj
  cases m with
  |nilmap=>
   simp only at hr
   generalize hvx:a.eval x=vx at hm main
   cases hm
   exact main (es:= #[]) (ks:=[]) (vs:=[]) (fun j v h=>by simp [Instr.findNow] at h) (fun z h hz=>by simp [Instr.lookup,run_underlying hu,run_checkKeyA hkk,run_findKeyA (es:= #[]) hd h,hz]) rfl rfl (by simp) (by simp) (by simpa [findA] using hr)
  |tmap ks vs=>
   simp only at hr
   generalize hvx:a.eval x=vx at hm main
   cases hm with
   |tmap r es cl _ _ hS hh hk1 hl1 hkv hvv=>
    exact main (es:=es) (fun j v h=>by simp [Instr.lookup,run_underlying hu,MapKept.run_getObj_map hh,run_checkKeyA hkk,run_findKeyA hd h]) (fun z h hz=>by simp [Instr.lookup,run_underlying hu,MapKept.run_getObj_map hh,run_checkKeyA hkk,run_findKeyA hd h,hz]) hk1 hl1 (fun i e k a b=>(hkv i e k a b).up) (fun i e v a b=>(hvv i e v a b).up) hr
  |map id=>
   simp only [Rd.run] at hr
   cases hl:look hp id with
   |none=>rw [hl] at hr;cases hr
   |some ob=>
    rw [hl] at hr
    have hob:=M.obs id ob hl
    cases ob with
    |map ks vs=>
     simp only at hr
     cases hq:(foundA P e ok vs (findA s k ks 0) sc).run (look hp) with
     |none=>rw [hq] at hr;cases hr
     |some p=>
      obtain ⟨r1,l1⟩:=p
      rw [hq] at hr
      injection hr with hr;injection hr with hr _;subst hr
      obtain ⟨bi,es,cl,h1,h2,h3,h4,h5,h6,_⟩:=hob
      generalize hvx:a.eval x=vx at hm main
      cases hm with
      |map _ bj hb=>
       rw [hb] at h1;injection h1 with h1;subst h1
       exact main (es:=es) (fun j v h=>by simp [Instr.lookup,run_underlying hu,MapKept.run_getObj_map h2,run_checkKeyA hkk,run_findKeyA hd h]) (fun z h hz=>by simp [Instr.lookup,run_underlying hu,MapKept.run_getObj_map h2,run_checkKeyA hkk,run_findKeyA hd h,hz]) h3 h4 h5 h6 hq
    |_=>cases hr
  |_=>cases hr
theorem ok_makeMap {t:TypeId} {d:Nat} (ho:o.op= .makeMap t none) (M:Mem F S β hp w) (h1:res.v= .map d) (h2:res.upd=[(d,.map [] [])]) (hn:look hp d=none):OpOK P F S β hp w a o res:=by
 have hob:HO S (β.add d ⟨w.heap.size,0,0⟩) (w.alloc (.map #[] 0)) d (.map [] []):=by
  refine ⟨_,#[],0,Beta.add_same _ _ _,?_,rfl,rfl,by simp,by simp,fun _=>MapKept.stamped_empty 0⟩
  show (w.heap.push _)[w.heap.size]? =_
  simp
 obtain ⟨E,M'⟩:=M.alloc hn (.map #[] 0) (.map [] []) (fun j a b h=>by cases h) 0 0 hob
 refine ok_value (v:= .map (some w.heap.size)) (w':=w.alloc (.map #[] 0)) ?_ E (by rw [h2];exact M') (by rw [h1];exact .map d ⟨w.heap.size,0,0⟩ (Beta.add_same _ _ _))
 simp [execOp,ho,Instr.makeMap]
theorem find_shape {s:Bool} {x:AV}:∀(ks:List AV) (i:Nat) {j:Nat},findA s x ks i=some (some j)→(∃k a,x= .int k a)∨∃q,x= .str q
 |[],_,j,h=>by simp [findA] at h
 |k::ks,i,j,h=>by
  simp only [findA] at h
  cases hs:sameA s x k with
  |none=>rw [hs] at h;cases h
  |some b=>
   cases x with
   |int k a=>exact .inl ⟨k,a,rfl⟩
   |str q=>exact .inr ⟨q,rfl⟩
   |_=>simp [sameA] at hs
theorem stays_run {u:Value} {x:AV} (hx:V S β w u x) (h:(∃k a,x= .int k a)∨∃q,x= .str q):(Instr.keyThatStays u u).run P w= .ok u w:=by
 rcases h with ⟨k,a,rfl⟩|⟨q,rfl⟩
 ·cases hx
  have:Instr.sameBits 10000 (.int k a) (.int k a)=true:=by simp [Instr.sameBits]
  simp [Instr.keyThatStays,this]
 ·cases hx
  have:Instr.sameBits 10000 (.string q) (.string q)=true:=by simp [Instr.sameBits,beq_bytes]
  simp [Instr.keyThatStays,this]
theorem all_left {ks:List AV} {k:AV} (h:(ks++[k]).all txt=true):ks.all txt=true:=by
 rw [List.all_append,Bool.and_eq_true] at h;exact h.1
theorem all_set {ks:List AV} {k:AV} {j:Nat} (hk:ks[j]? =some k) (h:(ks.set j k).all txt=true):ks.all txt=true:=by
 have:ks.set j k=ks:=by
  apply List.ext_getElem?
  intro i
  rw [List.getElem?_set]
  by_cases e:j=i
  ·subst e
   rw [if_pos rfl,hk]
   rw [if_pos (List.getElem?_eq_some_iff.1 hk).1]
  ·rw [if_neg e]
 rw [this] at h
 exact h
theorem findNow_none {d:TypeDesc} {u:Value}:∀(es:List MapEntry) (i:Nat),Instr.findNow d u es i=some none→∀x,x∈es→x.key≠u
 |[],_,_,x,hx=>by simp at hx
 |e::es,i,h,x,hx=>by
  simp only [Instr.findNow] at h
  cases hs:Instr.sameNow d u e.key with
  |none=>rw [hs] at h;cases h
  |some b=>
   rw [hs] at h
   cases b with
   |true=>simp at h
   |false=>
    rcases List.mem_cons.1 hx with rfl|hx
    ·intro hk
     rw [hk] at hs
     cases d<;>cases u<;>simp [Instr.sameNow,beq_bytes] at hs
    ·exact findNow_none es (i+1) h x hx
theorem ok_update {t:TypeId} {x y z:Operand} {m k v:AV} (ho:o.op= .mapUpdate t x y z) (M:Mem F S β hp w) (hm:V S β w (a.eval x) m) (hk:V S β w (a.eval y) k) (hv:V S β w (a.eval z) v) (hr:(updateA P t m k v sc).run (look hp)=some (res,rd)) (hc:∀c,c∈res.cs→c.p):
  OpOK P F S β hp w a o res:=by
 unfold updateA at hr
 cases hkt:keyTy P t with
 |none=>rw [hkt] at hr;cases hr
 |some q=>
  obtain ⟨kt,e,s⟩:=q
  rw [hkt] at hr
  obtain ⟨hu,hkk⟩:=keyTy_some hkt
  obtain ⟨d,hd,hKD⟩:=keyD_of hkk
  simp only at hr
  by_cases hov:ownV v=true
  ·rw [if_pos hov] at hr;cases hr
  rw [if_neg hov] at hr
  have hov':∀sz es,v≠ .own sz es:=by rintro sz es rfl;exact hov rfl
  cases m with
  |map id=>
   simp only [Rd.run] at hr
   cases hl:look hp id with
   |none=>rw [hl] at hr;cases hr
   |some ob=>
    rw [hl] at hr
    have hob:=M.obs id ob hl
    cases ob with
    |map ks vs=>
     simp only at hr
     obtain ⟨bi,es,cl,h1,h2,h3,h4,h5,h6,h7⟩:=hob
     generalize hvx:a.eval x=vx at hm
     cases hm with
     |map _ bj hb=>
      rw [hb] at h1;injection h1 with h1;subst h1
      have hlt:bj.blk<w.heap.size:=(M.own id bj hb).2.1
      have turns:∀ob,Turns bj w {w with heap:=w.heap.setIfInBounds bj.blk ob}:=by
       intro ob
       refine ⟨rfl,rfl,rfl,by simp,fun b hb1 hb2=> ?_⟩
       show (w.heap.setIfInBounds bj.blk ob)[b]? =_
       rw [Array.getElem?_setIfInBounds_ne (Ne.symm hb2)]
      have agr:∀ob,Agr S w {w with heap:=w.heap.setIfInBounds bj.blk ob}:=fun ob b hb'=>(turns ob).other b (M.sub b hb') (fun e=>(M.own id bj hb).1 (e▸hb'))
      have new:∀ob,({w with heap:=w.heap.setIfInBounds bj.blk ob}:World).heap[bj.blk]? =some ob:=by
       intro ob
       show (w.heap.setIfInBounds bj.blk ob)[bj.blk]? =_
       simp [hlt]
      cases hwh:whereA (findA s k ks 0) sc with
      |none=>rw [hwh] at hr;cases hr
      |some q3=>
       obtain ⟨r,cd,sc1⟩:=q3
       rw [hwh] at hr
       have hf:findA s k ks 0=some r:=by
        refine whereA_sound hwh ?_
        cases r with
        |none=>injection hr with hr;injection hr with hr _;subst hr;exact hc _ (List.mem_singleton.2 rfl)
        |some i=>injection hr with hr;injection hr with hr _;subst hr;exact hc _ (List.mem_singleton.2 rfl)
       have hfs:=find_sound hKD hk ks es.toList 0 (by simpa using h3) (fun j e k a b=>h5 j e k (by simpa using a) b) hf
       rcases hfs with ⟨rfl,hn⟩|⟨j,en,rfl,he,hke,hkx,hn⟩
       ·simp only [Rd.run] at hr
        injection hr with hr;injection hr with hr _;subst hr
        let ob:Obj:= .map (es.push {key:=a.eval y,val:=a.eval z,born:=cl}) (cl+1)
        have hob':HO S β {w with heap:=w.heap.setIfInBounds bj.blk ob} id (.map (ks++[k]) (vs++[v])):=by
         refine ⟨bj,_,_,hb,new ob,by simp [h3],by simp [h4],fun i en kk he hkk=> ?_,fun i en vv he hvv=> ?_,fun hx=>MapKept.stamped_push (h7 (all_left hx)) (findNow_none _ _ hn)⟩
         ·rw [Array.getElem?_push] at he
          split at he
          ·rename_i hi
           injection he with he;subst he
           subst hi
           rw [List.getElem?_append_right (by omega)] at hkk
           simp [h3] at hkk
           subst hkk
           exact hk.mono (fun _ h=>h) (fun _ _ h=>h) (agr ob)
          ·have hi:i<es.size:=(Array.getElem?_eq_some_iff.1 he).1
           rw [List.getElem?_append_left (by omega)] at hkk
           exact (h5 i en kk he hkk).mono (fun _ h=>h) (fun _ _ h=>h) (agr ob)
         ·rw [Array.getElem?_push] at he
          split at he
          ·rename_i hi
           injection he with he;subst he
           subst hi
           rw [List.getElem?_append_right (by omega)] at hvv
           simp [h4] at hvv
           subst hvv
           exact hv.mono (fun _ h=>h) (fun _ _ h=>h) (agr ob)
          ·have hi:i<es.size:=(Array.getElem?_eq_some_iff.1 he).1
           rw [List.getElem?_append_left (by omega)] at hvv
           exact (h6 i en vv he hvv).mono (fun _ h=>h) (fun _ _ h=>h) (agr ob)
        obtain ⟨E,M'⟩:=M.turn hb hl (by simp) (turns ob) _ hob' (fun j sz es' hj=>by
         simp only [Ob.at] at hj⊢
         rw [slotV_map (new ob),slotV_map h2]
         by_cases hlt':j<vs.length
         ·rw [List.getElem?_append_left hlt'] at hj
          refine ⟨hj,?_⟩
          rw [Array.getElem?_push,if_neg (by omega)]
         ·rw [List.getElem?_append_right (by omega)] at hj
          rcases hd':j-vs.length with _|q
          ·rw [hd'] at hj;injection hj with hj;exact absurd hj (hov' sz es')
          ·rw [hd'] at hj;cases hj)
        refine ok_skip ?_ E M' rfl
        have hrun:(Instr.mapUpdate t (.map (some bj.blk)) (a.eval y) (a.eval z)).run P w= .ok () {w with heap:=w.heap.setIfInBounds bj.blk ob}:=by
         simp [Instr.mapUpdate,run_underlying hu,MapKept.run_getObj_map h2,run_checkKeyA hkk,run_findKeyA hd hn,MapKept.run_setObj_map _ h2,ob]
        simp [execOp,ho,hvx,hrun]
       ·rw [Nat.zero_add] at hr hn
        simp only [Rd.run] at hr
        injection hr with hr;injection hr with hr _;subst hr
        have hj:es[j]? =some en:=by simpa using he
        have hshape:=find_shape ks 0 (by rw [hf,Nat.zero_add])
        let ob:Obj:= .map (es.modify j fun e=>{e with key:=a.eval y,val:=a.eval z}) cl
        have hob':HO S β {w with heap:=w.heap.setIfInBounds bj.blk ob} id (.map (ks.set j k) (vs.set j v)):=by
         refine ⟨bj,_,_,hb,new ob,by simp [h3],by simp [h4],fun i en kk he hkk=> ?_,fun i en vv he hvv=> ?_,fun hx=>MapKept.stamped_modify (h7 (all_set hkx hx)) j _ (fun _ _=>rfl) (fun e0 _ he0=>by rw [hj] at he0;injection he0 with he0;subst he0;exact hke.symm)⟩
         ·rw [Array.getElem?_modify] at he
          rw [List.getElem?_set] at hkk
          by_cases hij:j=i
          ·subst hij
           rw [if_pos rfl,hj] at he
           simp at he
           subst he
           rw [if_pos rfl] at hkk
           split at hkk
           ·injection hkk with hkk;subst hkk
            exact hk.mono (fun _ h=>h) (fun _ _ h=>h) (agr ob)
           ·cases hkk
          ·rw [if_neg hij] at he hkk
           exact (h5 i en kk he hkk).mono (fun _ h=>h) (fun _ _ h=>h) (agr ob)
         ·rw [Array.getElem?_modify] at he
          rw [List.getElem?_set] at hvv
          by_cases hij:j=i
          ·subst hij
           rw [if_pos rfl,hj] at he
           simp at he
           subst he
           rw [if_pos rfl] at hvv
           split at hvv
           ·injection hvv with hvv;subst hvv
            exact hv.mono (fun _ h=>h) (fun _ _ h=>h) (agr ob)
           ·cases hvv
          ·rw [if_neg hij] at he hvv
           exact (h6 i en vv he hvv).mono (fun _ h=>h) (fun _ _ h=>h) (agr ob)
        obtain ⟨E,M'⟩:=M.turn hb hl (by simp) (turns ob) _ hob' (fun i sz es' hi=>by
         simp only [Ob.at] at hi⊢
         rw [slotV_map (new ob),slotV_map h2]
         rw [List.getElem?_set] at hi
         by_cases hij:j=i
         ·rw [if_pos hij] at hi
          split at hi
          ·injection hi with hi;exact absurd hi (hov' sz es')
          ·cases hi
         ·rw [if_neg hij] at hi
          refine ⟨hi,?_⟩
          rw [Array.getElem?_modify,if_neg hij])
        refine ok_skip ?_ E M' rfl
        have hstay:=stays_run (P:=P) hk hshape
        have hrun:(Instr.mapUpdate t (.map (some bj.blk)) (a.eval y) (a.eval z)).run P w= .ok () {w with heap:=w.heap.setIfInBounds bj.blk ob}:=by
         simp [Instr.mapUpdate,run_underlying hu,MapKept.run_getObj_map h2,run_checkKeyA hkk,run_findKeyA hd hn,MapKept.run_setObj_map _ h2,hj,hke,hstay,ob]
        simp [execOp,ho,hvx,hrun]
    |_=>cases hr
  |_=>cases hr
theorem conc_of {t:TypeId} (h:concA P t=true):∃d,P.underlying t=some d∧∀ms,d≠ .interface ms:=by
 unfold concA at h
 cases hu:P.underlying t with
 |none=>rw [hu] at h;cases h
 |some d=>
  refine ⟨d,rfl,?_⟩
  rintro ms rfl
  rw [hu] at h
  cases h
theorem ok_typeAssert {x:Operand} {xt t:TypeId} {ok:Bool} {X:AV} (ho:o.op= .typeAssert x xt t ok) (M:Mem F S β hp w) (hx:V S β w (a.eval x) X) (hr:(assertA P X t ok sc).run (look hp)=some (res,rd)):OpOK P F S β hp w a o res:=by
 unfold assertA at hr
 by_cases hcn:concA P t=true
 ·rw [if_pos hcn] at hr
  obtain ⟨d,hd,hni⟩:=conc_of hcn
  have miss:∀{v:Value},((∃dt u,v= .iface dt u∧dt≠t)∨v= .nilIface)→∀z zv,(zeroValue t).run P w= .ok zv w→V S β w zv z→a.eval x=v→ok=true→res.v=outA true z false→res.upd=[]→OpOK P F S β hp w a o res:=by
   intro v hv z zv hz hV hvx hok e1 e2
   subst hok
   refine ok_same M (v:= .tuple #[zv,.bool false]) ?_ e2 (by rw [e1];exact out_sound (ok:=true) hV)
   rcases hv with ⟨dt,u,rfl,hne⟩|rfl
   ·cases d<;>first
     |exact absurd rfl (hni _)
     |simp [execOp,ho,hvx,Instr.typeAssert,run_underlying hd,hne,hz]
   ·cases d<;>first
     |exact absurd rfl (hni _)
     |simp [execOp,ho,hvx,Instr.typeAssert,run_underlying hd,hz]
  cases X with
  |iface dt v=>
   simp only at hr
   generalize hvx:a.eval x=vx at hx
   cases hx with
   |iface _ u _ h=>
    by_cases hdt:dt=t
    ·rw [if_pos hdt] at hr
     obtain ⟨e1,e2,_,_⟩:=val_run hr
     subst hdt
     refine ok_same M (v:=if ok then .tuple #[u,.bool true] else u) ?_ e2 (by rw [e1];exact out_sound h)
     cases d<;>first
      |exact absurd rfl (hni _)
      |simp [execOp,ho,hvx,Instr.typeAssert,run_underlying hd]
    ·rw [if_neg hdt] at hr
     split at hr
     ·rename_i z hz
      obtain ⟨e1,e2,_,_⟩:=val_run hr
      obtain ⟨zv,hz1,hz2,_⟩:=zero_of (P:=P) (S:=S) (β:=β) (w:=w) hz
      exact miss (.inl ⟨dt,u,rfl,hdt⟩) z zv hz1 hz2 hvx rfl e1 e2
     ·cases hr
  |nili=>
   simp only at hr
   generalize hvx:a.eval x=vx at hx
   cases hx
   split at hr
   ·rename_i z hz
    obtain ⟨e1,e2,_,_⟩:=val_run hr
    obtain ⟨zv,hz1,hz2,_⟩:=zero_of (P:=P) (S:=S) (β:=β) (w:=w) hz
    exact miss (.inr rfl) z zv hz1 hz2 hvx rfl e1 e2
   ·cases hr
  |_=>cases hr
 ·rw [if_neg hcn] at hr;cases hr
end
end
section
section
variable {P:Program} {F:Fr} {S:Blk} {β:Beta} {hp:List (Nat×Ob)} {w:World} {a:Act} {o:Oper} {res:Res} {rd:List Nat} {sc:List Dir}
theorem keyStruct_some {t k e:TypeId} {l:List Field} (h:keyStruct P t=some (k,e,l)):
  P.underlying t=some (.map k e)∧∃fs:Array Field,P.underlying k=some (.struct fs)∧fs.toList=l∧∀f,f∈l→plainA P f.type=true∧sizeA P f.type=some 1:=by
 unfold keyStruct at h
 split at h
 ·rename_i k' e' hu
  split at h
  ·rename_i fs hk
   split at h
   ·rename_i hall
    injection h with h;simp only [Prod.mk.injEq] at h;obtain ⟨rfl,rfl,rfl⟩:=h
    refine ⟨hu,fs,hk,rfl,fun f hf=> ?_⟩
    have:=List.all_eq_true.1 hall f hf
    simpa using this
   ·cases h
  ·cases h
 ·cases h
theorem plain_agg {t:TypeId} (h:plainA P t=true):aggA P t=some false∧∀(em:Bool) (n:Nat) (v:Value),(Instr.checkKey em (n+1) t v).run P w= .ok () w:=by
 unfold plainA at h
 split at h
 ·rename_i hu
  refine ⟨by unfold aggA;rw [hu],fun em n v=> ?_⟩
  rw [Instr.checkKey];simp [run_underlying hu]
 ·rename_i q hu
  refine ⟨by unfold aggA;rw [hu],fun em n v=> ?_⟩
  rw [Instr.checkKey];simp [run_underlying hu]
 ·rename_i hu
  refine ⟨by unfold aggA;rw [hu],fun em n v=> ?_⟩
  rw [Instr.checkKey];simp [run_underlying hu]
 ·cases h
theorem run_checkFields (em:Bool) (n:Nat) (vs:List Value):∀(l:List Field),(∀f,f∈l→plainA P f.type=true∧sizeA P f.type=some 1)→fieldsIn l vs.length=true→
  Sem.run P (forIn l PUnit.unit fun f (_:PUnit)=>(if f.name≠ "_" then (do let x←part f.type vs.toArray f.offset;Instr.checkKey em (n+1) f.type x;pure (ForInStep.yield PUnit.unit)) else pure (ForInStep.yield PUnit.unit):Sem (ForInStep PUnit))) w= .ok PUnit.unit w
 |[],_,_=>by simp
 |f::l,h,hi=>by
  obtain ⟨h1,h2⟩:=h f (by simp)
  obtain ⟨hag,hck⟩:=plain_agg (w:=w) h1
  simp only [fieldsIn,List.all_cons,Bool.and_eq_true,decide_eq_true_eq] at hi
  have hp:=run_part (P:=P) (w:=w) hag h2 vs f.offset (by omega) (fun _=>rfl)
  have ih:=run_checkFields em n vs l (fun g hg=>h g (List.mem_cons_of_mem _ hg)) hi.2
  rw [List.forIn_cons]
  by_cases hn:f.name= "_"
  ·simp only [hn,ne_eq,not_true_eq_false,if_false]
   simpa using ih
  ·simp only [ne_eq,hn,not_false_eq_true,if_true,Sem.run_bind,hp,Result.andThen_ok,hck]
   simpa using ih
theorem run_checkStruct {k:TypeId} {fs:Array Field} {l:List Field} (hk:P.underlying k=some (.struct fs)) (hl:fs.toList=l) (h:∀f,f∈l→plainA P f.type=true∧sizeA P f.type=some 1) {vs:List Value} (hi:fieldsIn l vs.length=true) (em:Bool):
  (Instr.checkKey em 10000 k (.agg vs.toArray)).run P w= .ok () w:=by
 show (Instr.checkKey em (9998+1+1) k (.agg vs.toArray)).run P w= .ok () w
 rw [Instr.checkKey]
 simp only [Sem.run_bind,run_underlying hk,Result.andThen_ok]
 have:=run_checkFields (P:=P) (w:=w) em 9998 vs l h hi
 rw [←hl] at this
 rw [←Array.forIn_toList,this]
 simp
theorem findS_sound {kt:TypeId} {fs:Array Field} (hk:P.underlying kt=some (.struct fs)) {us:List Value} {xs:List AV} (hx:Each S β w us xs):∀(ks:List AV) (es:List MapEntry) (i:Nat) {r:Option Nat},ks.length=es.length→
  (∀(j:Nat) e k,es[j]? =some e→ks[j]? =some k→V S β w e.key k)→findS P kt xs ks i=some r→
  (r=none∧(Instr.findAsking kt (.agg us.toArray) es i).run P w= .ok none w)∨∃j e,r=some (i+j)∧es[j]? =some e∧(Instr.findAsking kt (.agg us.toArray) es i).run P w= .ok (some (i+j,e.val)) w
 |[],[],i,r,_,_,h=>by
  simp only [findS] at h
  injection h with h
  exact .inl ⟨h.symm,by simp [Instr.findAsking]⟩
 |[],_::_,i,r,hl,_,_=>by simp at hl
 |_::_,[],i,r,hl,_,_=>by simp at hl
 |k::ks,e::es,i,r,hl,hv,h=>by
  have hkv:=hv 0 e k rfl rfl
  cases k with
  |agg ys=>
   simp only [findS] at h
   generalize hek:e.key=ek at hkv
   cases hkv with
   |agg vs _ hl' h'=>
    have hg:aggA P kt=some true:=by unfold aggA;rw [hk]
    have main:∀b,eqTy P 20 kt xs ys=some (b,[],[])→(Op.equal kt (.agg us.toArray) (.agg vs.toArray)).run P w= .ok b w:=by
     intro b hq
     obtain ⟨m,i1,i2,i3,i4,i5⟩:=eqTy_sound (P:=P) (S:=S) (β:=β) (w:=w) 20 10000 (by omega) kt xs ys [] [] b us vs hq hx ⟨hl',h'⟩
     have:=i5 true hg (by simp)
     have k1:us.take m=us:=List.take_of_length_le (by have:=congrArg List.length i1;rw [List.length_drop] at this;simp at this;have:=hx.1;omega)
     have k2:vs.take m=vs:=List.take_of_length_le (by have:=congrArg List.length i2;rw [List.length_drop] at this;simp at this;omega)
     rw [k1,k2] at this
     simpa [valOf,Op.equal,Op.maxDepth] using this
    split at h
    ·rename_i hq
     injection h with h
     exact .inr ⟨0,e,h.symm,rfl,by simp [Instr.findAsking,hek,main _ hq]⟩
    ·rename_i hq
     rcases findS_sound hk hx ks es (i+1) (by simpa using hl) (fun j e k a b=>hv (j+1) e k (by simpa using a) (by simpa using b)) h with ⟨r1,r2⟩|⟨j,e',r1,r2,r3⟩
     ·exact .inl ⟨r1,by simp [Instr.findAsking,hek,main _ hq,r2]⟩
     ·refine .inr ⟨j+1,e',by rw [r1];congr 1;omega,by simpa using r2,?_⟩
      have:i+1+j=i+(j+1):=by omega
      rw [this] at r3
      simp [Instr.findAsking,hek,main _ hq,r3]
    ·cases h
  |_=>simp only [findS] at h;cases h
theorem run_findKeyS {kt:TypeId} {fs:Array Field} (hk:P.underlying kt=some (.struct fs)) {u:Array Value} {es:Array MapEntry} {r:Option (Nat×Value)} (h:(Instr.findAsking kt (.agg u) es.toList 0).run P w= .ok r w):
  (Instr.findKey kt (.agg u) es.toList).run P w= .ok r w:=by
 unfold Instr.findKey
 simp only [Sem.run_bind,run_underlying hk,Result.andThen_ok]
 cases hes:es.toList with
 |nil=>
  rw [hes] at h
  simp only [Instr.findAsking,Sem.run_pure] at h
  simpa [Instr.findNow] using h
 |cons e l=>
  rw [hes] at h
  simpa [Instr.findNow,Instr.sameNow] using h
theorem ok_lookupS {t:TypeId} {x y:Operand} {ok:Bool} {m:AV} {xs:List AV} (ho:o.op= .lookup t x y ok) (M:Mem F S β hp w) (hm:V S β w (a.eval x) m) (hk:V S β w (a.eval y) (.agg xs)) (hr:(lookupS P t m (.agg xs) ok sc).run (look hp)=some (res,rd)) (hc:∀c,c∈res.cs→c.p):
  OpOK P F S β hp w a o res:=by
 unfold lookupS at hr
 cases hkt:keyStruct P t with
 |none=>rw [hkt] at hr;cases hr
 |some q=>
  obtain ⟨kt,e,l⟩:=q
  rw [hkt] at hr
  obtain ⟨hu,fs,hd,hl,hpl⟩:=keyStruct_some hkt
  simp only at hr
  by_cases hfi:fieldsIn l xs.length=true
  ·rw [if_pos hfi] at hr
   generalize hvy:a.eval y=vy at hk
   cases hk with
   |agg us _ hul hu'=>
    have hck:∀em,(Instr.checkKey em 10000 kt (.agg us.toArray)).run P w= .ok () w:=fun em=>run_checkStruct hd hl hpl (by rw [hul];exact hfi) em
    cases m with
    |nilmap=>
     simp only [] at hr
     generalize hvx:a.eval x=vx at hm
     cases hm
     rcases foundA_cases hr hc with ⟨j,v,hf,hv,e1,e2⟩|⟨z,hf,hz,e1,e2⟩
     ·cases hf
     ·obtain ⟨zv,hz1,hz2,_⟩:=zero_of (P:=P) (S:=S) (β:=β) (w:=w) hz
      refine ok_same M (v:=if ok then .tuple #[zv,.bool false] else zv) ?_ e2 (by rw [e1];exact out_sound hz2)
      have hfk:=run_findKeyS (es:= #[]) (u:=us.toArray) (r:=none) (w:=w) hd (by simp [Instr.findAsking])
      have hrun:(Instr.lookup t (.map none) (.agg us.toArray) ok).run P w= .ok (if ok then .tuple #[zv,.bool false] else zv) w:=by
       simp [Instr.lookup,run_underlying hu,hck,hfk,hz1]
      simp [execOp,ho,hvx,hvy,hrun]
    |map id=>
     simp only [Rd.run] at hr
     cases hlk:look hp id with
     |none=>rw [hlk] at hr;cases hr
     |some ob=>
      rw [hlk] at hr
      have hob:=M.obs id ob hlk
      cases ob with
      |map ks vs=>
       simp only at hr
       cases hq:(foundA P e ok vs (findS P kt xs ks 0) sc).run (look hp) with
       |none=>rw [hq] at hr;cases hr
       |some p=>
        obtain ⟨r1,l1⟩:=p
        rw [hq] at hr
        injection hr with hr;injection hr with hr _;subst hr
        obtain ⟨bi,es,cl,h1,h2,h3,h4,h5,h6,_⟩:=hob
        generalize hvx:a.eval x=vx at hm
        cases hm with
        |map _ bj hb=>
         rw [hb] at h1;injection h1 with h1;subst h1
         rcases foundA_cases hq hc with ⟨j,v,hf,hv,e1,e2⟩|⟨z,hf,hz,e1,e2⟩
         ·rcases findS_sound (P:=P) (S:=S) (β:=β) (w:=w) hd ⟨hul,hu'⟩ ks es.toList 0 (by simpa using h3) (fun j e k a b=>h5 j e k (by simpa using a) b) hf with ⟨hh,_⟩|⟨j',en,hj,he,hn⟩
          ·cases hh
          ·injection hj with hj
           rw [Nat.zero_add] at hj hn
           subst hj
           have hV:=h6 j en v (by simpa using he) hv
           refine ok_same M (v:=if ok then .tuple #[en.val,.bool true] else en.val) ?_ e2 (by rw [e1];exact out_sound hV)
           have hfk:=run_findKeyS hd hn
           have hrun:(Instr.lookup t (.map (some bj.blk)) (.agg us.toArray) ok).run P w= .ok (if ok then .tuple #[en.val,.bool true] else en.val) w:=by
            simp [Instr.lookup,run_underlying hu,MapKept.run_getObj_map h2,hck,hfk]
           simp [execOp,ho,hvx,hvy,hrun]
         ·rcases findS_sound (P:=P) (S:=S) (β:=β) (w:=w) hd ⟨hul,hu'⟩ ks es.toList 0 (by simpa using h3) (fun j e k a b=>h5 j e k (by simpa using a) b) hf with ⟨_,hn⟩|⟨j',en,hj,_⟩
          ·obtain ⟨zv,hz1,hz2,_⟩:=zero_of (P:=P) (S:=S) (β:=β) (w:=w) hz
           refine ok_same M (v:=if ok then .tuple #[zv,.bool false] else zv) ?_ e2 (by rw [e1];exact out_sound hz2)
           have hfk:=run_findKeyS hd hn
           have hrun:(Instr.lookup t (.map (some bj.blk)) (.agg us.toArray) ok).run P w= .ok (if ok then .tuple #[zv,.bool false] else zv) w:=by
            simp [Instr.lookup,run_underlying hu,MapKept.run_getObj_map h2,hck,hfk,hz1]
           simp [execOp,ho,hvx,hvy,hrun]
          ·cases hj
      |_=>cases hr
    |_=>cases hr
  ·rw [if_neg hfi] at hr;cases hr
theorem findS_txt {kt:TypeId} {xs:List AV}:∀(ks:List AV) (k:AV),txt k=false→(ks++[k]).all txt=true→False:=by
 intro ks k hk h
 rw [List.all_append] at h
 simp [hk] at h
theorem ok_updateS {t:TypeId} {x y z:Operand} {m v:AV} {xs:List AV} (ho:o.op= .mapUpdate t x y z) (M:Mem F S β hp w) (hm:V S β w (a.eval x) m) (hk:V S β w (a.eval y) (.agg xs)) (hv:V S β w (a.eval z) v)
  (hr:(updateS P t m (.agg xs) v sc).run (look hp)=some (res,rd)) (hc:∀c,c∈res.cs→c.p):OpOK P F S β hp w a o res:=by
 unfold updateS at hr
 cases hkt:keyStruct P t with
 |none=>rw [hkt] at hr;cases hr
 |some q=>
  obtain ⟨kt,e,l⟩:=q
  rw [hkt] at hr
  obtain ⟨hu,fs,hd,hl,hpl⟩:=keyStruct_some hkt
  simp only at hr
  by_cases hfi:fieldsIn l xs.length=true
  ·rw [if_pos hfi] at hr
   by_cases hov:ownV v=true
   ·rw [if_pos hov] at hr;cases hr
   rw [if_neg hov] at hr
   have hov':∀sz es,v≠ .own sz es:=by rintro sz es rfl;exact hov rfl
   have hk0:=hk
   generalize hvy:a.eval y=vy at hk
   cases hk with
   |agg us _ hul hu'=>
    have hck:∀em,(Instr.checkKey em 10000 kt (.agg us.toArray)).run P w= .ok () w:=fun em=>run_checkStruct hd hl hpl (by rw [hul];exact hfi) em
    cases m with
    |map id=>
     simp only [Rd.run] at hr
     cases hlk:look hp id with
     |none=>rw [hlk] at hr;cases hr
     |some ob=>
      rw [hlk] at hr
      have hob:=M.obs id ob hlk
      cases ob with
      |map ks vs=>
       simp only at hr
       obtain ⟨bi,es,cl,h1,h2,h3,h4,h5,h6,h7⟩:=hob
       generalize hvx:a.eval x=vx at hm
       cases hm with
       |map _ bj hb=>
        rw [hb] at h1;injection h1 with h1;subst h1
        have hlt:bj.blk<w.heap.size:=(M.own id bj hb).2.1
        have turns:∀ob,Turns bj w {w with heap:=w.heap.setIfInBounds bj.blk ob}:=by
         intro ob
         refine ⟨rfl,rfl,rfl,by simp,fun b hb1 hb2=> ?_⟩
         show (w.heap.setIfInBounds bj.blk ob)[b]? =_
         rw [Array.getElem?_setIfInBounds_ne (Ne.symm hb2)]
        have agr:∀ob,Agr S w {w with heap:=w.heap.setIfInBounds bj.blk ob}:=fun ob b hb'=>(turns ob).other b (M.sub b hb') (fun e=>(M.own id bj hb).1 (e▸hb'))
        have new:∀ob,({w with heap:=w.heap.setIfInBounds bj.blk ob}:World).heap[bj.blk]? =some ob:=by
         intro ob
         show (w.heap.setIfInBounds bj.blk ob)[bj.blk]? =_
         simp [hlt]
        cases hwh:whereA (findS P kt xs ks 0) sc with
        |none=>rw [hwh] at hr;cases hr
        |some q3=>
         obtain ⟨r,cd,sc1⟩:=q3
         rw [hwh] at hr
         have hf:findS P kt xs ks 0=some r:=by
          refine whereA_sound hwh ?_
          cases r with
          |none=>injection hr with hr;injection hr with hr _;subst hr;exact hc _ (List.mem_singleton.2 rfl)
          |some i=>cases hr
         rcases findS_sound (P:=P) (S:=S) (β:=β) (w:=w) hd ⟨hul,hu'⟩ ks es.toList 0 (by simpa using h3) (fun j e k a b=>h5 j e k (by simpa using a) b) hf with ⟨rfl,hn⟩|⟨j,en,rfl,he,hn⟩
         ·simp only [Rd.run] at hr
          injection hr with hr;injection hr with hr _;subst hr
          rw [hvy] at hk0
          let ob:Obj:= .map (es.push {key:= .agg us.toArray,val:=a.eval z,born:=cl}) (cl+1)
          have hob':HO S β {w with heap:=w.heap.setIfInBounds bj.blk ob} id (.map (ks++[.agg xs]) (vs++[v])):=by
           refine ⟨bj,_,_,hb,new ob,by simp [h3],by simp [h4],fun i en kk he hkk=> ?_,fun i en vv he hvv=> ?_,fun hx=>(findS_txt (kt:=kt) (xs:=xs) _ _ rfl hx).elim⟩
           ·rw [Array.getElem?_push] at he
            split at he
            ·rename_i hi
             injection he with he;subst he
             subst hi
             rw [List.getElem?_append_right (by omega)] at hkk
             simp [h3] at hkk
             subst hkk
             exact hk0.mono (fun _ h=>h) (fun _ _ h=>h) (agr ob)
            ·have hi:i<es.size:=(Array.getElem?_eq_some_iff.1 he).1
             rw [List.getElem?_append_left (by omega)] at hkk
             exact (h5 i en kk he hkk).mono (fun _ h=>h) (fun _ _ h=>h) (agr ob)
           ·rw [Array.getElem?_push] at he
            split at he
            ·rename_i hi
             injection he with he;subst he
             subst hi
             rw [List.getElem?_append_right (by omega)] at hvv
             simp [h4] at hvv
             subst hvv
             exact hv.mono (fun _ h=>h) (fun _ _ h=>h) (agr ob)
            ·have hi:i<es.size:=(Array.getElem?_eq_some_iff.1 he).1
             rw [List.getElem?_append_left (by omega)] at hvv
             exact (h6 i en vv he hvv).mono (fun _ h=>h) (fun _ _ h=>h) (agr ob)
          obtain ⟨E,M'⟩:=M.turn hb hlk (by simp) (turns ob) _ hob' (fun j sz es' hj=>by
           simp only [Ob.at] at hj⊢
           rw [slotV_map (new ob),slotV_map h2]
           by_cases hlt':j<vs.length
           ·rw [List.getElem?_append_left hlt'] at hj
            refine ⟨hj,?_⟩
            rw [Array.getElem?_push,if_neg (by omega)]
           ·rw [List.getElem?_append_right (by omega)] at hj
            rcases hd':j-vs.length with _|q
            ·rw [hd'] at hj;injection hj with hj;exact absurd hj (hov' sz es')
            ·rw [hd'] at hj;cases hj)
          refine ok_skip ?_ E M' rfl
          have hfk:=run_findKeyS hd hn
          have hrun:(Instr.mapUpdate t (.map (some bj.blk)) (.agg us.toArray) (a.eval z)).run P w= .ok () {w with heap:=w.heap.setIfInBounds bj.blk ob}:=by
           simp [Instr.mapUpdate,run_underlying hu,MapKept.run_getObj_map h2,hck,hfk,MapKept.run_setObj_map _ h2,ob]
          simp [execOp,ho,hvx,hvy,hrun]
         ·cases hr
      |_=>cases hr
    |_=>cases hr
  ·rw [if_neg hfi] at hr;cases hr
theorem erase_arr {es:Array MapEntry} {j:Nat} (hj:j<es.size) (i:Nat):(es.eraseIdxIfInBounds j)[i]? =if i<j then es[i]? else es[i+1]? :=by
 unfold Array.eraseIdxIfInBounds
 rw [dif_pos hj,Array.getElem?_eraseIdx]
theorem ok_delete {t u:TypeId} {x y:Operand} {m k:AV} (ho:o.op= .call ⟨.builtin .delete,#[x,y],#[t,u]⟩) (M:Mem F S β hp w) (hm:V S β w (a.eval x) m) (hk:V S β w (a.eval y) k) (hr:(deleteA P t m k sc).run (look hp)=some (res,rd)) (hc:∀c,c∈res.cs→c.p):
  OpOK P F S β hp w a o res:=by
 have exec:∀{v:Value} {w':World},(Builtin.delete_ #[t,u] o.type #[a.eval x,a.eval y]).run P w= .ok v w'→(execOp a.eval o).run P w= .ok (.value v) w':=by
  intro v w' h
  simp [execOp,ho,resolve,invoke,builtin,h]
 unfold deleteA at hr
 cases hkt:keyTy P t with
 |none=>rw [hkt] at hr;cases hr
 |some q=>
  obtain ⟨kt,e,s⟩:=q
  rw [hkt] at hr
  obtain ⟨hu,hkk⟩:=keyTy_some hkt
  obtain ⟨d,hd,hKD⟩:=keyD_of hkk
  simp only at hr
  by_cases htx:txt k=true
  rotate_left
  ·rw [if_neg htx] at hr;cases hr
  rw [if_pos htx] at hr
  cases m with
  |map id=>
   simp only [Rd.run] at hr
   cases hl:look hp id with
   |none=>rw [hl] at hr;cases hr
   |some ob=>
    rw [hl] at hr
    have hob:=M.obs id ob hl
    cases ob with
    |map ks vs=>
     simp only at hr
     obtain ⟨bi,es,cl,h1,h2,h3,h4,h5,h6,h7⟩:=hob
     generalize hvx:a.eval x=vx at hm exec
     cases hm with
     |map _ bj hb=>
      rw [hb] at h1;injection h1 with h1;subst h1
      have hlt:bj.blk<w.heap.size:=(M.own id bj hb).2.1
      have turns:∀ob,Turns bj w {w with heap:=w.heap.setIfInBounds bj.blk ob}:=by
       intro ob
       refine ⟨rfl,rfl,rfl,by simp,fun b hb1 hb2=> ?_⟩
       show (w.heap.setIfInBounds bj.blk ob)[b]? =_
       rw [Array.getElem?_setIfInBounds_ne (Ne.symm hb2)]
      have agr:∀ob,Agr S w {w with heap:=w.heap.setIfInBounds bj.blk ob}:=fun ob b hb'=>(turns ob).other b (M.sub b hb') (fun e=>(M.own id bj hb).1 (e▸hb'))
      have new:∀ob,({w with heap:=w.heap.setIfInBounds bj.blk ob}:World).heap[bj.blk]? =some ob:=by
       intro ob
       show (w.heap.setIfInBounds bj.blk ob)[bj.blk]? =_
       simp [hlt]
      cases hwh:whereA (findA s k ks 0) sc with
      |none=>rw [hwh] at hr;cases hr
      |some q3=>
       obtain ⟨r,cd,sc1⟩:=q3
       rw [hwh] at hr
       have hf:findA s k ks 0=some r:=by
        refine whereA_sound hwh ?_
        cases r with
        |none=>injection hr with hr;injection hr with hr _;subst hr;exact hc _ (List.mem_singleton.2 rfl)
        |some i=>injection hr with hr;injection hr with hr _;subst hr;exact hc _ (List.mem_cons_self ..)
       have hfs:=find_sound hKD hk ks es.toList 0 (by simpa using h3) (fun j e k a b=>h5 j e k (by simpa using a) b) hf
       rcases hfs with ⟨rfl,hn⟩|⟨j,en,rfl,he,hke,hkx,hn⟩
       ·simp only [Rd.run] at hr
        injection hr with hr;injection hr with hr _;subst hr
        let ob:Obj:= .map es cl
        have hob':HO S β {w with heap:=w.heap.setIfInBounds bj.blk ob} id (.map ks vs):=
         ⟨bj,es,cl,hb,new ob,h3,h4,fun i en kk he hkk=>(h5 i en kk he hkk).mono (fun _ h=>h) (fun _ _ h=>h) (agr ob),fun i en vv he hvv=>(h6 i en vv he hvv).mono (fun _ h=>h) (fun _ _ h=>h) (agr ob),h7⟩
        obtain ⟨E,M'⟩:=M.turn hb hl (by simp) (turns ob) _ hob' (fun j sz es' hj=>⟨hj,by rw [slotV_map (new ob),slotV_map h2]⟩)
        refine ok_value (v:= .tuple #[]) (exec ?_) E M' (.tup [] [] rfl (by simp))
        simp [Builtin.delete_,run_underlying hu,MapKept.run_getObj_map h2,run_checkKeyA hkk,run_findKeyA hd hn,MapKept.run_setObj_map _ h2,ob]
       ·rw [Nat.zero_add] at hr hn
        simp only [Rd.run] at hr
        injection hr with hr;injection hr with hr _;subst hr
        have hown:=hc _ (List.mem_cons_of_mem _ (List.mem_singleton.2 rfl))
        simp only at hown
        have hj:es[j]? =some en:=by simpa using he
        have hjs:j<es.size:=(Array.getElem?_eq_some_iff.1 hj).1
        let ob:Obj:= .map (es.eraseIdxIfInBounds j) cl
        have hob':HO S β {w with heap:=w.heap.setIfInBounds bj.blk ob} id (.map (ks.eraseIdx j) (vs.eraseIdx j)):=by
         have hsz:(es.eraseIdxIfInBounds j).size=es.size-1:=by
          unfold Array.eraseIdxIfInBounds
          rw [dif_pos hjs,Array.size_eraseIdx]
         refine ⟨bj,_,_,hb,new ob,by rw [hsz,List.length_eraseIdx_of_lt (by omega),h3],by rw [hsz,List.length_eraseIdx_of_lt (by omega),h4],fun i en kk he hkk=> ?_,fun i en vv he hvv=> ?_,fun hx=> ?_⟩
         ·rw [erase_arr hjs] at he
          rw [List.getElem?_eraseIdx] at hkk
          by_cases hij:i<j
          ·rw [if_pos hij] at he hkk
           exact (h5 i en kk he hkk).mono (fun _ h=>h) (fun _ _ h=>h) (agr ob)
          ·rw [if_neg hij] at he hkk
           exact (h5 (i+1) en kk he hkk).mono (fun _ h=>h) (fun _ _ h=>h) (agr ob)
         ·rw [erase_arr hjs] at he
          rw [List.getElem?_eraseIdx] at hvv
          by_cases hij:i<j
          ·rw [if_pos hij] at he hvv
           exact (h6 i en vv he hvv).mono (fun _ h=>h) (fun _ _ h=>h) (agr ob)
          ·rw [if_neg hij] at he hvv
           exact (h6 (i+1) en vv he hvv).mono (fun _ h=>h) (fun _ _ h=>h) (agr ob)
         ·refine MapKept.stamped_erase (h7 ?_) j
          rw [List.all_eq_true] at hx⊢
          intro z hz
          by_cases hzz:z∈ks.eraseIdx j
          ·exact hx z hzz
          ·obtain ⟨i,hi⟩:=List.mem_iff_getElem?.1 hz
           have hij:i=j:=by
            by_cases h:i=j
            ·exact h
            ·exfalso
             refine hzz (List.mem_iff_getElem?.2 ?_)
             by_cases hlt2:i<j
             ·exact ⟨i,by rw [List.getElem?_eraseIdx,if_pos hlt2];exact hi⟩
             ·refine ⟨i-1,?_⟩
              rw [List.getElem?_eraseIdx,if_neg (by omega),show i-1+1=i from by omega]
              exact hi
           subst hij
           rw [hkx] at hi;injection hi with hi;rw [←hi];exact htx
        obtain ⟨E,M'⟩:=M.turn hb hl (by simp) (turns ob) _ hob' (fun i sz es' hi=>by
         exfalso
         simp only [Ob.at] at hi
         have:=hown _ (List.mem_of_mem_eraseIdx (List.mem_of_getElem? hi))
         cases this)
        refine ok_value (v:= .tuple #[]) (exec ?_) E M' (.tup [] [] rfl (by simp))
        simp [Builtin.delete_,run_underlying hu,MapKept.run_getObj_map h2,run_checkKeyA hkk,run_findKeyA hd hn,MapKept.run_setObj_map _ h2,ob]
    |_=>cases hr
  |_=>cases hr
end
end
section
section
variable {P:Program} {F:Fr} {S:Blk} {β:Beta} {hp:List (Nat×Ob)} {w:World} {a:Act} {o:Oper} {res:Res} {rd:List Nat} {sc:List Dir} {n:Nat} {env:List (Nat×AV)}
theorem each_ops (E:Env S β w n env a) (l:List Operand):Each S β w (l.map a.eval) (l.map (evalA env)):=by
 refine ⟨by simp,fun i v x h1 h2=> ?_⟩
 rw [List.getElem?_map] at h1 h2
 cases hl:l[i]? with
 |none=>rw [hl] at h1;cases h1
 |some q=>
  rw [hl] at h1 h2
  injection h1 with h1;injection h2 with h2
  subst h1;subst h2
  exact evalA_sound E q
theorem parts_ops (E:Env S β w n env a):∀(l:List (Nat×Operand)),Parts S β w (l.map fun x=>(x.1,a.eval x.2)) ((l.map (·.1)).zip ((l.map (·.2)).map (evalA env)))
 |[]=>trivial
 |x::l=>⟨rfl,evalA_sound E x.2,parts_ops E l⟩
set_option maxHeartbeats 1000000 in
theorem evalOp_sound {d:Nat} (E:Env S β w n env a) (M:Mem F S β hp w) (hr:(evalOp P d o.op (o.op.operands.toList.map (evalA env)) sc).run (look hp)=some (res,rd)) (hc:∀c,c∈res.cs→c.p)
  (hn:∀id,id∈res.new→look hp id=none):OpOK P F S β hp w a o res:=by
 cases hop:o.op with
 |move x=>rw [hop] at hr;exact ok_move (.inl hop) M (evalA_sound E x) hr
 |assign x=>rw [hop] at hr;exact ok_move (.inr hop) M (evalA_sound E x) hr
 |pick c x y=>
  rw [hop] at hr
  change (evalOp P d (.pick c x y) [evalA env c,evalA env x,evalA env y] sc).run _=_ at hr
  have hC:=evalA_sound E c
  generalize evalA env c=C at hr hC
  cases C with
  |bool b=>exact ok_pick hop M hC (evalA_sound E x) (evalA_sound E y) hr
  |_=>cases hr
 |alloc t=>
  rw [hop] at hr
  change (match zeroA P t with|some z=>if isDead z=true then Rd.fail else newVar d z sc|none=>Rd.fail).run _=_ at hr
  cases hz:zeroA P t with
  |none=>rw [hz] at hr;cases hr
  |some z=>
   rw [hz] at hr
   simp only at hr
   by_cases hd:isDead z=true
   ·rw [if_pos hd] at hr;cases hr
   ·rw [if_neg hd] at hr
    exact ok_alloc hop M hz (by simpa using hd) hr hn
 |box t x=>
  rw [hop] at hr
  change (if isDead (evalA env x)=true then Rd.fail else newVar d (evalA env x) sc).run _=_ at hr
  by_cases hd:isDead (evalA env x)=true
  ·rw [if_pos hd] at hr;cases hr
  ·rw [if_neg hd] at hr
   exact ok_box hop M (evalA_sound E x) (by simpa using hd) hr hn
 |build t ps=>
  rw [hop] at hr
  refine ok_build (sc:=sc) (rd:=rd) hop M (parts_ops E ps.toList) ?_
  simpa [Op.operands,evalOp] using hr
 |buildSlice t m ps=>
  rw [hop] at hr
  refine ok_buildSlice (d:=d) (sc:=sc) (rd:=rd) hop M (parts_ops E ps.toList) ?_ hn
  simpa [Op.operands,evalOp] using hr
 |load t x=>rw [hop] at hr;exact ok_load hop M (evalA_sound E x) hr hc
 |store t x y=>rw [hop] at hr;exact ok_store hop M (evalA_sound E x) (evalA_sound E y) hr hc
 |nilCheck x=>
  rw [hop] at hr
  change (evalOp P d (.nilCheck x) [evalA env x] sc).run _=_ at hr
  have hX:=evalA_sound E x
  generalize evalA env x=X at hr hX
  cases X with
  |elt i k q=>exact ok_nilCheck (.inl ⟨i,k,q,rfl⟩) hop M hX hr
  |tptr cs=>exact ok_nilCheck (.inr ⟨cs,rfl⟩) hop M hX hr
  |_=>cases hr
 |binOp op t x y ty=>
  rw [hop] at hr
  change (if isNilV (evalA env y)=true then nilA P op t (evalA env x) (evalA env y) sc else if isAggV (evalA env x)=true then eqAggA P op t (evalA env x) (evalA env y) sc else binOpA P op t (evalA env x) (evalA env y) sc).run _=_ at hr
  have hX:=evalA_sound E x
  have hY:=evalA_sound E y
  by_cases hnil:isNilV (evalA env y)=true
  ·rw [if_pos hnil] at hr
   exact ok_nil hop M hX hY hr hc
  rw [if_neg hnil] at hr
  by_cases hd:isAggV (evalA env x)=true
  ·rw [if_pos hd] at hr
   generalize evalA env x=X at hr hX hd
   generalize evalA env y=Y at hr hY
   cases X with
   |agg xs=>
    cases Y with
    |agg ys=>exact ok_eqAgg hop M hX hY hr hc
    |_=>cases hr
   |_=>cases hd
  ·rw [if_neg hd] at hr
   exact ok_binOp hop M hX hY hr hc
 |unOp op t x=>
  rw [hop] at hr
  change (evalOp P d (.unOp op t x) [evalA env x] sc).run _=_ at hr
  have hX:=evalA_sound E x
  generalize evalA env x=X at hr hX
  cases op with
  |not=>
   cases X with
   |bool b=>exact ok_unOp hop M hX hr
   |_=>cases hr
  |_=>cases hr
 |convert s t x=>rw [hop] at hr;exact ok_convert hop M (evalA_sound E x) hr hc
 |makeInterface t x=>
  rw [hop] at hr
  change (if concA P t=true then val (.iface t (evalA env x)) sc else Rd.fail).run _=_ at hr
  by_cases hd:concA P t=true
  ·rw [if_pos hd] at hr
   obtain ⟨ds,h1,h2⟩:=conc_of hd
   exact ok_makeInterface hop M (evalA_sound E x) h1 h2 hr
  ·rw [if_neg hd] at hr;cases hr
 |makeFunc fn first cap=>
  rw [hop] at hr
  cases fn with
  |func f=>
   have hr':(if (((first++cap).toList.map (evalA env)).length=first.size+cap.size) then val (.clo f (((first++cap).toList.map (evalA env)).take first.size) (((first++cap).toList.map (evalA env)).drop first.size)) sc else Rd.fail).run (look hp)=some (res,rd):=hr
   rw [if_pos (by simp)] at hr'
   exact ok_makeFunc hop M (each_ops E _) hr'
  |_=>cases hr
 |makeSlice t x y=>
  rw [hop] at hr
  change (evalOp P d (.makeSlice t x y) [evalA env x,evalA env y] sc).run _=_ at hr
  have hX:=evalA_sound E x
  have hY:=evalA_sound E y
  generalize evalA env x=X at hr hX
  generalize evalA env y=Y at hr hY
  cases X with
  |int k p=>
   cases k with
   |i64=>
    cases Y with
    |int k2 q=>
     cases k2 with
     |i64=>exact ok_makeSlice (d:=d) hop M hX hY hr hc hn
     |_=>cases hr
    |_=>cases hr
   |_=>cases hr
  |_=>cases hr
 |slice t x lo hi mx=>
  rw [hop] at hr
  have hX:=(evalA_sound E x).unNil
  have yes:∀(q:Operand),((some q=none∧some (evalA env q)=none)∨∃q' y,some q=some q'∧some (evalA env q)=some y∧V S β w (a.eval q') y):=fun q=> .inr ⟨q,_,rfl,rfl,evalA_sound E q⟩
  have no:(((none:Option Operand)=none∧(none:Option AV)=none)∨∃q' y,(none:Option Operand)=some q'∧(none:Option AV)=some y∧V S β w (a.eval q') y):= .inl ⟨rfl,rfl⟩
  cases lo with
  |some l=>
   cases hi with
   |some h=>
    cases mx with
    |some m=>
     change (sliceA P t (unNil (evalA env x)) (some (evalA env l)) (some (evalA env h)) (some (evalA env m)) sc).run _=_ at hr
     exact ok_slice hop M hX (yes l) (yes h) (yes m) hr hc
    |none=>
     change (cutOr P t (unNil (evalA env x)) (some (evalA env l)) (some (evalA env h)) none sc).run _=_ at hr
     generalize unNil (evalA env x)=X at hr hX
     unfold cutOr at hr
     split at hr
     ·exact ok_cut hop M hX (yes l) (yes h) hr hc
     ·exact ok_slice hop M hX (yes l) (yes h) no hr hc
   |none=>
    cases mx with
    |some m=>cases hr
    |none=>
     change (cutOr P t (unNil (evalA env x)) (some (evalA env l)) none none sc).run _=_ at hr
     generalize unNil (evalA env x)=X at hr hX
     unfold cutOr at hr
     split at hr
     ·exact ok_cut hop M hX (yes l) no hr hc
     ·exact ok_slice hop M hX (yes l) no no hr hc
  |none=>
   cases hi with
   |none=>cases mx<;>cases hr
   |some h=>
    cases mx with
    |some m=>
     change (sliceA P t (unNil (evalA env x)) none (some (evalA env h)) (some (evalA env m)) sc).run _=_ at hr
     exact ok_slice hop M hX no (yes h) (yes m) hr hc
    |none=>
     change (cutOr P t (unNil (evalA env x)) none (some (evalA env h)) none sc).run _=_ at hr
     generalize unNil (evalA env x)=X at hr hX
     unfold cutOr at hr
     split at hr
     ·exact ok_cut hop M hX no (yes h) hr hc
     ·exact ok_slice hop M hX no (yes h) no hr hc
 |fieldAddr t x f=>rw [hop] at hr;exact ok_fieldAddr hop M (evalA_sound E x) hr
 |field t x f=>rw [hop] at hr;exact ok_field hop M (evalA_sound E x) hr
 |indexAddr t x i=>
  rw [hop] at hr
  change (evalOp P d (.indexAddr t x i) [evalA env x,evalA env i] sc).run _=_ at hr
  have hI:=evalA_sound E i
  generalize evalA env i=I at hr hI
  cases I with
  |int k m=>exact ok_indexAddr hop M (evalA_sound E x).unNil hI hr hc
  |_=>cases hr
 |index t x i=>
  rw [hop] at hr
  change (evalOp P d (.index t x i) [evalA env x,evalA env i] sc).run _=_ at hr
  have hI:=evalA_sound E i
  generalize evalA env i=I at hr hI
  cases I with
  |int k m=>exact ok_index hop M (evalA_sound E x) hI hr hc
  |_=>cases hr
 |extract x i=>
  rw [hop] at hr
  change (evalOp P d (.extract x i) [evalA env x] sc).run _=_ at hr
  have hX:=evalA_sound E x
  generalize evalA env x=X at hr hX
  cases X with
  |tup xs=>
   change (match xs[i]? with|some x=>val x sc|none=>Rd.fail).run _=_ at hr
   cases hx:xs[i]? with
   |none=>rw [hx] at hr;cases hr
   |some y=>rw [hx] at hr;exact ok_extract hop M hX hx hr
  |_=>cases hr
 |typeAssert x xt t ok=>rw [hop] at hr;exact ok_typeAssert hop M (evalA_sound E x) hr
 |makeMap t r=>
  rw [hop] at hr
  cases r with
  |none=>
   have hr':(some (({v:= .map d,upd:=[(d,.map [] [])],new:=[d],sc:=sc}:Res),([]:List Nat)))=some (res,rd):=hr
   injection hr' with hr'
   injection hr' with hr' _
   subst hr'
   exact ok_makeMap hop M rfl rfl (hn d (by simp))
  |some r=>cases hr
 |lookup t x y ok=>
  rw [hop] at hr
  change (if isAggV (evalA env y)=true then lookupS P t (evalA env x) (evalA env y) ok sc else lookupA P t (evalA env x) (evalA env y) ok sc).run _=_ at hr
  have hY:=evalA_sound E y
  by_cases hd:isAggV (evalA env y)=true
  ·rw [if_pos hd] at hr
   generalize evalA env y=Y at hr hY hd
   cases Y with
   |agg ys=>exact ok_lookupS hop M (evalA_sound E x) hY hr hc
   |_=>cases hd
  ·rw [if_neg hd] at hr
   exact ok_lookup hop M (evalA_sound E x) hY hr hc
 |mapUpdate t x y z=>
  rw [hop] at hr
  change (if isAggV (evalA env y)=true then updateS P t (evalA env x) (evalA env y) (evalA env z) sc else updateA P t (evalA env x) (evalA env y) (evalA env z) sc).run _=_ at hr
  have hY:=evalA_sound E y
  by_cases hd:isAggV (evalA env y)=true
  ·rw [if_pos hd] at hr
   generalize evalA env y=Y at hr hY hd
   cases Y with
   |agg ys=>exact ok_updateS hop M (evalA_sound E x) hY (evalA_sound E z) hr hc
   |_=>cases hd
  ·rw [if_neg hd] at hr
   exact ok_update hop M (evalA_sound E x) hY (evalA_sound E z) hr hc
 |call c=>
  rw [hop] at hr
  obtain ⟨callee,args,ts⟩:=c
  cases callee with
  |value f=>
   have hr':(callA P (evalA env f) (args.toList.map (evalA env)) sc).run (look hp)=some (res,rd):=by
    simpa [Op.operands,Call.operands,evalOp] using hr
   exact ok_call hop M (evalA_sound E f) (each_ops E _) hr' hc hn
  |builtin b=>
   have hr0:(builtinB P d b ts (args.toList.map (evalA env)) sc).run (look hp)=some (res,rd):=by
    simpa [Op.operands,Call.operands,evalOp] using hr
   obtain ⟨args⟩:=args
   obtain ⟨ts⟩:=ts
   rcases builtinB_or P d b ⟨ts⟩ (args.map (evalA env)) sc with ⟨t,u,m,k,rfl,h1,h2,h3⟩|heq
   ·have hr1:(deleteA P t m k sc).run (look hp)=some (res,rd):=by rw [←h3];exact hr0
    match args,h2 with
    |[q,q'],h2=>
     injection h2 with h2 h4
     injection h4 with h4
     subst h2;subst h4
     have:ts=[t,u]:=h1
     subst this
     exact ok_delete hop M (evalA_sound E q) (evalA_sound E q') hr1 hc
   have hr':(builtinA P d b ⟨ts⟩ (args.map (evalA env)) sc).run (look hp)=some (res,rd):=by rw [←heq];exact hr0
   clear heq hr0
   unfold builtinA at hr'
   split at hr'
   ·rename_i t x h1 h2
    match args,h2 with
    |[q],h2=>
     injection h2 with h2
     subst h2
     have:ts=[t]:=h1
     subst this
     exact ok_len (ty:=t) hop M (evalA_sound E q).unNil hr'
   ·rename_i t u x y h1 h2
    match args,h2 with
    |[q,q'],h2=>
     injection h2 with h2 h3
     injection h3 with h3
     subst h2;subst h3
     have:ts=[t,u]:=h1
     subst this
     by_cases htu:t=u
     ·rw [if_pos htu] at hr'
      subst htu
      split at hr'
      ·rename_i m sc'
       exact ok_append (d:=m.toNat) hop M (evalA_sound E q).unNil (evalA_sound E q').unNil hr' hc hn
      ·exact ok_append (d:=d) hop M (evalA_sound E q).unNil (evalA_sound E q').unNil hr' hc hn
     ·rw [if_neg htu] at hr';cases hr'
   ·rename_i t x h1 h2
    match args,h2 with
    |[q],h2=>
     injection h2 with h2
     subst h2
     have:ts=[t]:=h1
     subst this
     exact ok_clear hop M (evalA_sound E q).unNil hr' hc
   ·rename_i t u k p k' q0 h1 h2
    have hlen:args.length=2:=by simpa using congrArg List.length h2
    match args,hlen,h2 with
    |[q,q'],_,h2=>
     injection h2 with h2 h3
     injection h3 with h3
     have:ts=[t,u]:=h1
     subst this
     exact ok_max hop M (h2▸evalA_sound E q) (h3▸evalA_sound E q') hr'
   ·rename_i t u k p k' q0 h1 h2
    have hlen:args.length=2:=by simpa using congrArg List.length h2
    match args,hlen,h2 with
    |[q,q'],_,h2=>
     injection h2 with h2 h3
     injection h3 with h3
     have:ts=[t,u]:=h1
     subst this
     exact ok_min hop M (h2▸evalA_sound E q) (h3▸evalA_sound E q') hr'
   ·cases hr'
  |invoke _ _=>simp [evalOp] at hr;cases hr
 |_=>rw [hop] at hr;simp [evalOp] at hr;cases hr
end
end
end Go.Ped
