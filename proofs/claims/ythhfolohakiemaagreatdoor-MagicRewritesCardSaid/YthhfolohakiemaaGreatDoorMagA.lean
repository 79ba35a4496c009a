/- What the one operation of the program's code gives is reckoned without addresses, and the reckoning is right. -/
import Derived.WalkKit
import Derived.LoopN
import Derived.MapKept
import Derived.Lib.ItoaNum
set_option linter.all false
namespace Go.Ped
open Go.RowKit
abbrev df:=Nat→Prop
inductive AV where
 |aP (k:IntKind) (n:Int)
 |ak (b:Bool)
 |J (s:ByteArray)
 |al (cs:List AV)
 |bC (vs:List AV)
 |aF (es:List AV) (clip:Bool)
 |ab
 |aw (id off len:Nat)
 |aO (id len:Nat)
 |aE (cs:List AV)
 |aA (id k off:Nat)
 |eK
 |aI (id:Nat)
 |bH (ks vs:List AV)
 |bh
 |bZ (f:FuncId) (first cap:List AV)
 |eU
 |bu (t:TypeId) (v:AV)
 |eV
 |aX (sz:Nat) (es:List AV)
 |aQ (es xs:List AV)
 |mB
 |aB
instance:Inhabited AV:=⟨.aB⟩
def AV.ac:AV→List AV
 | .al cs=>cs
 |v=>[v]
structure Bl where
 bG:Nat
 sz:Nat
 f5:Nat
abbrev bn:=Nat→Option Bl
def fo:bn:=fun _=>none
inductive V (S:df):bn→World→Value→AV→Prop where
 |aP {β:bn} {w:World} (k:IntKind) (n:Int):V S β w (.int k n) (.aP k n)
 |ak {β:bn} {w:World} (b:Bool):V S β w (.bool b) (.ak b)
 |J {β:bn} {w:World} (s:ByteArray):V S β w (.string s) (.J s)
 |al {β:bn} {w:World} (vs:List Value) (cs:List AV) (hl:vs.length=cs.length) (h:∀(i:Nat) v c,vs[i]? =some v→cs[i]? =some c→V S β w v c):V S β w (.agg vs.toArray) (.al cs)
 |bC {β:bn} {w:World} (vs:List Value) (cs:List AV) (hl:vs.length=cs.length) (h:∀(i:Nat) v c,vs[i]? =some v→cs[i]? =some c→V S β w v c):V S β w (.tuple vs.toArray) (.bC cs)
 |aF {β:bn} {w:World} (p:Option Addr) (cap sz b o:Nat) (es:List AV) (clip:Bool) (U:Nat→Nat→Value) (hcap:es.length≤cap) (hmax:cap≤maxLen) (hclip:clip=true→cap=es.length)
  (hp:es≠[]→p=some ⟨b,o,none⟩∧S b) (hsz:∀(i:Nat) (e:AV),es[i]? =some e→e.ac.length=sz)
  (hc:∀(i j:Nat) (e c:AV),es[i]? =some e→e.ac[j]? =some c→w.cell? ⟨b,o+i*sz+j,none⟩=some (U i j))
  (hv:∀(i j:Nat) (e c:AV),es[i]? =some e→e.ac[j]? =some c→V S fo w (U i j) c) (hnil:p=none→cap=0:=by first|assumption|(intro h;cases h;done)|(intro _;rfl)):V S β w (.slice p es.length cap) (.aF es clip)
 |aw {β:bn} {w:World} (id off len:Nat) (a:Addr) (bi:Bl) (hb:β id=some bi) (hle:off+len≤bi.f5) (ha:off<bi.f5→a=⟨bi.bG,off*bi.sz,none⟩):V S β w (.slice (some a) len (bi.f5-off)) (.aw id off len)
 |ft {β:bn} {w:World} (id:Nat):V S β w (.slice none 0 0) (.aO id 0)
 |ix {β:bn} {w:World} (id len:Nat) (a:Addr) (bi:Bl) (hb:β id=some bi) (hle:len≤bi.f5) (ha:a=⟨bi.bG,0,none⟩) (hn:len≠0):V S β w (.slice (some a) len bi.f5) (.aO id len)
 |aE {β:bn} {w:World} (b o:Nat) (cs:List AV) (U:Nat→Value) (hS:S b) (hc:∀(j:Nat) (c:AV),cs[j]? =some c→w.cell? ⟨b,o+j,none⟩=some (U j))
  (hv:∀(j:Nat) (c:AV),cs[j]? =some c→V S fo w (U j) c):V S β w (.pointer (some ⟨b,o,none⟩)) (.aE cs)
 |aA {β:bn} {w:World} (id k off:Nat) (bi:Bl) (hb:β id=some bi):V S β w (.pointer (some ⟨bi.bG,k*bi.sz+off,none⟩)) (.aA id k off)
 |eK {β:bn} {w:World}:V S β w (.pointer none) .eK
 |aI {β:bn} {w:World} (id:Nat) (bi:Bl) (hb:β id=some bi):V S β w (.map (some bi.bG)) (.aI id)
 |bH {β:bn} {w:World} (r:Nat) (es:Array MapEntry) (cl:Nat) (ks vs:List AV) (hS:S r) (hr:w.heap[r]? =some (.map es cl)) (hk:ks.length=es.size) (hl:vs.length=es.size)
  (hkv:∀(i:Nat) e k,es[i]? =some e→ks[i]? =some k→V S fo w e.key k) (hvv:∀(i:Nat) e v,es[i]? =some e→vs[i]? =some v→V S fo w e.val v):V S β w (.map (some r)) (.bH ks vs)
 |bh {β:bn} {w:World}:V S β w (.map none) .bh
 |ab {β:bn} {w:World}:V S β w (.slice none 0 0) .ab
 |bZ {β:bn} {w:World} (f:FuncId) (fs gs:List Value) (first cap:List AV) (hf:fs.length=first.length) (hg:gs.length=cap.length)
  (hfv:∀(i:Nat) v c,fs[i]? =some v→first[i]? =some c→V S β w v c) (hgv:∀(i:Nat) v c,gs[i]? =some v→cap[i]? =some c→V S β w v c):V S β w (.func (.func f) fs.toArray gs.toArray) (.bZ f first cap)
 |eU {β:bn} {w:World}:V S β w .nilFunc .eU
 |bu {β:bn} {w:World} (t:TypeId) (v:Value) (x:AV) (h:V S β w v x):V S β w (.iface t v) (.bu t x)
 |eV {β:bn} {w:World}:V S β w .nilIface .eV
 |aQ {β:bn} {w:World} (cap sz b o:Nat) (es xs:List AV) (U:Nat→Nat→Value) (hcap:es.length+xs.length≤cap) (hmax:cap≤maxLen) (hS:S b)
  (hsz:∀(i:Nat) (e:AV),(es++xs)[i]? =some e→e.ac.length=sz)
  (hc:∀(i j:Nat) (e c:AV),(es++xs)[i]? =some e→e.ac[j]? =some c→w.cell? ⟨b,o+i*sz+j,none⟩=some (U i j))
  (hv:∀(i j:Nat) (e c:AV),(es++xs)[i]? =some e→e.ac[j]? =some c→V S fo w (U i j) c):V S β w (.slice (some ⟨b,o,none⟩) es.length cap) (.aQ es xs)
 |aX {β:bn} {w:World} (p:Option Addr) (cap sz:Nat) (es:List AV):V S β w (.slice p es.length cap) (.aX sz es)
 |mB {β:bn} {w:World} (a:Addr) (cap:Nat) (hmax:cap≤maxLen):V S β w (.slice (some a) 0 cap) .mB
 |aB {β:bn} {w:World} (v:Value):V S β w v .aB
def nI (S:df) (w w':World):Prop:=∀b,S b→w'.heap[b]? =w.heap[b]?
theorem nI.bb (S:df) (w:World):nI S w w:=fun _ _=>rfl
theorem nI.ck {S:df} {a b c:World} (h:nI S a b) (k:nI S b c):nI S a c:=fun i hi=>(k i hi).trans (h i hi)
theorem nI.Up {S T:df} {a b:World} (h:nI T a b) (hs:∀i,S i→T i):nI S a b:=fun i hi=>h i (hs i hi)
theorem nI.Kd {S:df} {w w':World} (h:nI S w w') {b o:Nat} (hb:S b):w'.cell? ⟨b,o,none⟩=w.cell? ⟨b,o,none⟩:=
 World.cell?_of_block (w:=w) (h b hb)
theorem V.bR {S S':df} {β β':bn} {w w':World} (hS:∀b,S b→S' b) (hβ:∀i b,β i=some b→β' i=some b) (ha:nI S w w') {v:Value} {x:AV} (h:V S β w v x):V S' β' w' v x:=by
 induction h generalizing β' with
 |aP k n=>exact .aP k n
 |ak b=>exact .ak b
 |J s=>exact .J s
 |al vs cs hl h ih=>exact .al vs cs hl fun i v c h1 h2=>ih i v c h1 h2 hβ ha
 |bC vs cs hl h ih=>exact .bC vs cs hl fun i v c h1 h2=>ih i v c h1 h2 hβ ha
 |aF p cap sz b o es clip U hcap hmax hclip hp hsz hc hv hnil ih=>
  refine .aF p cap sz b o es clip U hcap hmax hclip (fun hne=>⟨(hp hne).1,hS _ (hp hne).2⟩) hsz (fun i j e c h1 h2=> ?_) (fun i j e c h1 h2=>ih i j e c h1 h2 (fun _ _ h=>h) ha)
  have hne:es≠[]:=by grind
  exact (ha.Kd (hp hne).2).trans (hc i j e c h1 h2)
 |aw id off len a bi hb hle ha'=>exact .aw id off len a bi (hβ _ _ hb) hle ha'
 |ft id=>exact .ft id
 |ix id len a bi hb hle ha' hn=>exact .ix id len a bi (hβ _ _ hb) hle ha' hn
 |aE b o cs U hb hc hv ih=>exact .aE b o cs U (hS _ hb) (fun j c h=>(ha.Kd hb).trans (hc j c h)) (fun j c h=>ih j c h (fun _ _ h=>h) ha)
 |aA id k off bi hb=>exact .aA id k off bi (hβ _ _ hb)
 |eK=>exact .eK
 |aI id bi hb=>exact .aI id bi (hβ _ _ hb)
 |bH r es cl ks vs hb hr hk hl hkv hvv ih1 ih2=>exact .bH r es cl ks vs (hS _ hb) ((ha r hb).trans hr) hk hl (fun i e k h1 h2=>ih1 i e k h1 h2 (fun _ _ h=>h) ha) (fun i e k h1 h2=>ih2 i e k h1 h2 (fun _ _ h=>h) ha)
 |bh=>exact .bh
 |ab=>exact .ab
 |bZ f fs gs first cap hf hg hfv hgv ih1 ih2=>exact .bZ f fs gs first cap hf hg (fun i v c h1 h2=>ih1 i v c h1 h2 hβ ha) (fun i v c h1 h2=>ih2 i v c h1 h2 hβ ha)
 |eU=>exact .eU
 |bu t v x h ih=>exact .bu t v x (ih hβ ha)
 |eV=>exact .eV
 |aQ cap sz b o es xs U hcap hmax hb hsz hc hv ih=>exact .aQ cap sz b o es xs U hcap hmax (hS _ hb) hsz (fun i j e c h1 h2=>(ha.Kd hb).trans (hc i j e c h1 h2)) (fun i j e c h1 h2=>ih i j e c h1 h2 (fun _ _ h=>h) ha)
 |aX p cap sz es=>exact .aX p cap sz es
 |mB a cap hm=>exact .mB a cap hm
 |aB v=>exact .aB v
theorem V.up {S:df} {β:bn} {w:World} {v:Value} {x:AV} (h:V S fo w v x):V S β w v x:=h.bR (fun _ h=>h) (fun _ _ h=>by cases h) (nI.bb S w)
theorem V.ac {S:df} {β:bn} {w:World} {v:Value} {x:AV} (h:V S β w v x) (hx:x≠ .aB):
  v.cells.size=x.ac.length∧∀(j:Nat) c,x.ac[j]? =some c→∃u,v.cells[j]? =some u∧V S β w u c:=by
 have one:∀{v:Value} {x:AV},V S β w v x→v.cells= #[v]→x.ac=[x]→v.cells.size=x.ac.length∧∀(j:Nat) c,x.ac[j]? =some c→∃u,v.cells[j]? =some u∧V S β w u c:=by
  grind
 cases h with
 |al vs cs hl h=>
  grind[Value.cells,AV.ac,List.getElem?_eq_some_iff,List.getElem?_eq_getElem]
 |aB v=>grind
 |aP k n=>exact one (.aP k n) rfl rfl
 |ak b=>exact one (.ak b) rfl rfl
 |J s=>exact one (.J s) rfl rfl
 |bC vs cs hl h=>exact one (.bC vs cs hl h) rfl rfl
 |aF p cap sz b o es clip U hcap hmax hclip hp hsz hc hv=>exact one (.aF p cap sz b o es clip U hcap hmax hclip hp hsz hc hv) rfl rfl
 |aw id off len a bi hb hle ha=>exact one (.aw id off len a bi hb hle ha) rfl rfl
 |ft id=>exact one (.ft id) rfl rfl
 |ix id len a bi hb hle ha hn=>exact one (.ix id len a bi hb hle ha hn) rfl rfl
 |aE b o cs U hb hc hv=>exact one (.aE b o cs U hb hc hv) rfl rfl
 |aA id k off bi hb=>exact one (.aA id k off bi hb) rfl rfl
 |eK=>exact one .eK rfl rfl
 |aI id bi hb=>exact one (.aI id bi hb) rfl rfl
 |bH r es cl ks vs hb hr hk hl hkv hvv=>exact one (.bH r es cl ks vs hb hr hk hl hkv hvv) rfl rfl
 |bh=>exact one .bh rfl rfl
 |ab=>exact one .ab rfl rfl
 |bZ f fs gs first cap hf hg hfv hgv=>exact one (.bZ f fs gs first cap hf hg hfv hgv) rfl rfl
 |eU=>exact one .eU rfl rfl
 |bu t v x h=>exact one (.bu t v x h) rfl rfl
 |eV=>exact one .eV rfl rfl
 |aQ cap sz b o es xs U hcap hmax hb hsz hc hv=>exact one (.aQ cap sz b o es xs U hcap hmax hb hsz hc hv) rfl rfl
 |aX p cap sz es=>exact one (.aX p cap sz es) rfl rfl
 |mB a cap hm=>exact one (.mB a cap hm) rfl rfl
theorem V.IW {S:df} {β:bn} {w:World} {v:Value} {es xs:List AV} (h:V S β w v (.aQ es xs)):V S β w v (.aF es false):=by
 cases h with
 |aQ cap sz b o _ _ U hcap hmax hb hsz hc hv=>
  have at_:∀{i:Nat} {e:AV},es[i]? =some e→(es++xs)[i]? =some e:=fun {i e} h=>by
   grind
  exact .aF _ cap sz b o es false U (by omega) hmax (fun h=>by grind) (fun _=>⟨rfl,hb⟩) (fun i e h=>hsz i e (at_ h)) (fun i j e c h1 h2=>hc i j e c (at_ h1) h2) (fun i j e c h1 h2=>hv i j e c (at_ h1) h2) (fun h=>by grind)
def ae {α:Type} (l:List (Nat×α)) (k:Nat):Option α:=
 match l with
 |[]=>none
 |(i,x)::r=>if i=k then some x else ae r k
def ba {α:Type} (l:List (Nat×α)) (k:Nat) (x:α):List (Nat×α):=
 match l with
 |[]=>[(k,x)]
 |(i,y)::r=>if i=k then (k,x)::r else (i,y)::ba r k x
theorem aq {α:Type} (l:List (Nat×α)) (k j:Nat) (x:α):ae (ba l k x) j=if k=j then some x else ae l j:=by
 induction l with
 |nil=>rfl
 |cons h r ih=>
  obtain ⟨i,y⟩:=h
  unfold ba
  by_cases hik:i=k
  ·subst hik
   rw [if_pos rfl]
   grind[ae]
  ·rw [if_neg hik]
   simp only [ae,ih]
   grind
inductive Ob where
 |an (cs:List AV)
 |aw (sz:Nat) (es:List AV)
 |aI (ks vs:List AV)
 |ao (sz:Nat) (es:List AV)
 |iw (o:Obj)
 |aB
def HR (S:df) (β:bn) (w:World) (bi:Bl) (es:List AV):Prop:=
 ∃cur t,w.heap[bi.bG]? =some (.cells cur t (0,0))∧cur.size=bi.f5*bi.sz∧es.length≤bi.f5∧bi.f5≤maxLen∧(∀(i:Nat) (e:AV),es[i]? =some e→e.ac.length=bi.sz)∧
  ∀(i j:Nat) (e c:AV),es[i]? =some e→e.ac[j]? =some c→∃u,cur[i*bi.sz+j]? =some u∧V S β w u c
def AE:AV→Bool
 | .J _=>true
 |_=>false
def HO (S:df) (β:bn) (w:World) (id:Nat):Ob→Prop
 | .an cs=>∃bi,β id=some bi∧bi.f5=1∧HR S β w bi [.al cs]
 | .aw sz es=>∃bi,β id=some bi∧bi.sz=sz∧HR S β w bi es
 | .aI ks vs=>∃bi es cl,β id=some bi∧w.heap[bi.bG]? =some (.map es cl)∧ks.length=es.size∧vs.length=es.size∧
  (∀(i:Nat) e k,es[i]? =some e→ks[i]? =some k→V S β w e.key k)∧(∀(i:Nat) e v,es[i]? =some e→vs[i]? =some v→V S β w e.val v)∧(ks.all AE=true→MapKept.Stamped es cl)
 | .ao sz es=>es=[]∨∃bi,β id=some bi∧bi.sz=sz∧HR S β w bi es
 | .iw o=>∃bi,β id=some bi∧w.heap[bi.bG]? =some o
 | .aB=>True
theorem HR.bR {S S':df} {β β':bn} {w w':World} (hS:∀b,S b→S' b) (hβ:∀i b,β i=some b→β' i=some b) (ha:nI S w w') {bi:Bl} {es:List AV} (hb:w'.heap[bi.bG]? =w.heap[bi.bG]?)
  (h:HR S β w bi es):HR S' β' w' bi es:=by
 obtain ⟨cur,t,h1,h2,h3,h4,h5,h6⟩:=h
 refine ⟨cur,t,hb.trans h1,h2,h3,h4,h5,fun i j e c he hc=> ?_⟩
 obtain ⟨u,hu,hv⟩:=h6 i j e c he hc
 exact ⟨u,hu,hv.bR hS hβ ha⟩
theorem HO.bR {S S':df} {β β':bn} {w w':World} (hS:∀b,S b→S' b) (hβ:∀i b,β i=some b→β' i=some b) (ha:nI S w w') {id:Nat} {o:Ob}
  (hb:∀bi,β id=some bi→w'.heap[bi.bG]? =w.heap[bi.bG]?) (h:HO S β w id o):HO S' β' w' id o:=by
 cases o with
 |an cs=>obtain ⟨bi,h1,h2,h3⟩:=h;exact ⟨bi,hβ _ _ h1,h2,h3.bR hS hβ ha (hb bi h1)⟩
 |aw sz es=>obtain ⟨bi,h1,h2,h3⟩:=h;exact ⟨bi,hβ _ _ h1,h2,h3.bR hS hβ ha (hb bi h1)⟩
 |aI ks vs=>
  obtain ⟨bi,es,cl,h1,h2,h3,h4,h5,h6,h7⟩:=h
  exact ⟨bi,es,cl,hβ _ _ h1,(hb bi h1).trans h2,h3,h4,fun i e k a b=>(h5 i e k a b).bR hS hβ ha,fun i e v a b=>(h6 i e v a b).bR hS hβ ha,h7⟩
 |ao sz es=>
  rcases h with h|⟨bi,h1,h2,h3⟩
  ·exact .inl h
  ·exact .inr ⟨bi,hβ _ _ h1,h2,h3.bR hS hβ ha (hb bi h1)⟩
 |iw o=>obtain ⟨bi,h1,h2⟩:=h;exact ⟨bi,hβ _ _ h1,(hb bi h1).trans h2⟩
 |aB=>trivial
structure Fr where
 r:Option Nat:=none
 m:Nat:=0
 w0:World
 S0:df
 M:df
 β0:bn
abbrev given:Nat:=100000
abbrev mid:Nat:=50000
def B7 (w:World):Prop:=∃t fz,w.heap[0]? =some (.cells ((Lib.pow10Tab.map fun z=>Value.int .u64 z).toArray) t fz)
def Ob.at:Ob→Nat→Option AV
 | .an cs,j=>cs[j]?
 | .aI _ vs,j=>vs[j]?
 |_,_=>none
def e8 (w:World) (b j:Nat):Option Value:=
 match w.heap[b]? with
 |some (.cells cur _ _)=>cur[j]?
 |some (.map es _)=>es[j]?.map (·.val)
 |_=>none
theorem cI {w w':World} {b:Nat} (h:w'.heap[b]? =w.heap[b]?) (j:Nat):e8 w' b j=e8 w b j:=by grind[e8]
structure jT (F:Fr) (S:df) (β:bn) (hp:List (Nat×Ob)) (w:World) (b:Nat):Prop where
 ns:¬S b
 lt:b<w.heap.size
 fr:F.M b∨F.w0.heap.size≤b
 ap:∀i bi,β i=some bi→(∀o,ae hp i=some o→o≠ .aB)→bi.bG≠b
def cz (β:bn) (hp:List (Nat×Ob)) (w:World) (id j sz:Nat) (es:List AV) (v:Value):Prop:=
 ∃o bi,ae hp id=some o∧β id=some bi∧o.at j=some (.aX sz es)∧e8 w bi.bG j=some v
structure NK (F:Fr) (S:df) (β:bn) (hp:List (Nat×Ob)) (w:World):Prop where
 aX:∀id o j sz es,ae hp id=some o→o.at j=some (.aX sz es)→∃v,cz β hp w id j sz es v∧
  ((es=[]∧v= .slice none 0 0)∨∃b cap,v= .slice (some ⟨b,0,none⟩) es.length cap∧es≠[]∧HR S fo w ⟨b,sz,cap⟩ es∧jT F S β hp w b)
 vn:∀id j sz es id' j' sz' es' b n c n' c',cz β hp w id j sz es (.slice (some ⟨b,0,none⟩) n c)→cz β hp w id' j' sz' es' (.slice (some ⟨b,0,none⟩) n' c')→id=id'∧j=j'
 dN:∀id j sz es b n c,cz β hp w id j sz es (.slice (some ⟨b,0,none⟩) n c)→id<mid→F.w0.heap.size≤b
theorem Ob.d8 {o:Ob} {j:Nat} {x:AV} (h:o.at j=some x):o≠ .aB:=by rintro rfl;cases h
theorem NK.yV {F:Fr} {S:df} {β:bn} {hp:List (Nat×Ob)} {w:World} (h:∀id o j sz es,ae hp id=some o→o.at j≠some (.aX sz es)):NK F S β hp w:=
 ⟨fun id o j sz es h1 h2=>absurd h2 (h id o j sz es h1),fun id j sz es id' j' sz' es' b n c n' c' h1 _=>by
  obtain ⟨o,bi,a,_,c,_⟩:=h1
  grind,fun id j sz es b n c h1 _=>by
  obtain ⟨o,bi,a,_,c,_⟩:=h1
  grind⟩
theorem NK.jE {F:Fr} {S S':df} {β β':bn} {hp hp':List (Nat×Ob)} {w w':World} (H:NK F S β hp w) (hS:∀b,S b→S' b) (ha:nI S w w')
  (hinj:∀i j bi bj,β' i=some bi→β' j=some bj→(∀o,ae hp' i=some o→o≠ .aB)→(∀o,ae hp' j=some o→o≠ .aB)→bi.bG=bj.bG→i=j)
  (hc:∀id' o' j sz es,ae hp' id'=some o'→o'.at j=some (.aX sz es)→∃id o bi bi',(id'<mid→id<mid)∧ae hp id=some o∧o.at j=some (.aX sz es)∧β id=some bi∧β' id'=some bi'∧bi'.bG=bi.bG∧e8 w' bi.bG j=e8 w bi.bG j)
  (hb:∀b,jT F S β hp w b→(∃id j sz es n c,cz β hp w id j sz es (.slice (some ⟨b,0,none⟩) n c)∧∃id',(∃bi bi',β id=some bi∧β' id'=some bi'∧bi'.bG=bi.bG)∧∃o',ae hp' id'=some o'∧o'.at j=some (.aX sz es))→w'.heap[b]? =w.heap[b]? ∧jT F S' β' hp' w' b):NK F S' β' hp' w':=by
 have back:∀{id' j sz es v},cz β' hp' w' id' j sz es v→∃id bi bi',(id'<mid→id<mid)∧cz β hp w id j sz es v∧β id=some bi∧β' id'=some bi'∧bi'.bG=bi.bG∧(∀o,ae hp' id'=some o→o≠ .aB):=by
  rintro id' j sz es v ⟨o',bi',h1,h2,h3,h4⟩
  obtain ⟨id,o,bi,bi2,km,k1,k2,k3,k4,k5,k6⟩:=hc id' o' j sz es h1 h3
  rw [h2] at k4;injection k4 with k4;subst k4
  refine ⟨id,bi,bi',km,⟨o,bi,k1,k3,k2,?_⟩,k3,h2,k5,fun o2 h=> ?_⟩
  all_goals grind[Ob.d8]
 refine ⟨fun id' o' j sz es h1 h2=> ?_,fun id j sz es id' j' sz' es' b n c n' c' h1 h2=> ?_,fun id j sz es b n c h1 h2=> ?_⟩
 ·obtain ⟨id,o,bi,bi',_,k1,k2,k3,k4,k5,k6⟩:=hc id' o' j sz es h1 h2
  obtain ⟨v,⟨o2,bi2,q1,q2,q3,q4⟩,hv⟩:=H.aX id o j sz es k1 k2
  rw [k3] at q2;injection q2 with q2;subst q2
  refine ⟨v,⟨o',bi',h1,k4,h2,by grind⟩,?_⟩
  rcases hv with hv|⟨b,cap,r1,r2,r3,r4⟩
  ·grind
  ·subst r1
   obtain ⟨s1,s2⟩:=hb b r4 ⟨id,j,sz,es,es.length,cap,⟨o2,bi,q1,k3,q3,q4⟩,id',⟨bi,bi',k3,k4,k5⟩,o',h1,h2⟩
   have r1:Value.slice (some ⟨b,0,none⟩) es.length cap= .slice (some ⟨b,0,none⟩) es.length cap:=rfl
   exact .inr ⟨b,cap,r1,r2,r3.bR hS (fun _ _ h=>h) ha s1,s2⟩
 ·grind[H.vn,id]
 ·obtain ⟨i1,b1,b1',km,a1,_⟩:=back h1
  exact H.dN _ _ _ _ _ _ _ a1 (km h2)
structure Kf (F:Fr) (S:df) (β:bn) (hp:List (Nat×Ob)) (w:World):Prop where
 pM:B7 F.w0∧¬F.M 0
 os:w.os=F.w0.os
 eL:w.tape=F.w0.tape
 cc:w.output=F.w0.output
 b6:F.w0.heap.size≤w.heap.size
 a6:∀b,b<F.w0.heap.size→¬F.M b→w.heap[b]? =F.w0.heap[b]?
 dg:∀id o,ae hp id=some o→HO S β w id o
 jU:∀id bi,β id=some bi→∃o,ae hp id=some o
 fZ:∀i j bi bj,β i=some bi→β j=some bj→(∀o,ae hp i=some o→o≠ .aB)→(∀o,ae hp j=some o→o≠ .aB)→bi.bG=bj.bG→i=j
 aX:∀i bi,β i=some bi→¬S bi.bG∧bi.bG<w.heap.size∧((mid≤i∧F.M bi.bG)∨F.w0.heap.size≤bi.bG)
 sub:∀b,S b→b<w.heap.size
 eW:∀b,F.S0 b→S b
 dN:∀b,S b→F.S0 b∨F.w0.heap.size≤b
 pL:∀i b,given≤i→F.β0 i=some b→β i=some b
structure b7 (F:Fr) (S:df) (β:bn) (hp:List (Nat×Ob)) (w:World):Prop extends Kf F S β hp w where
 da:NK F S β hp w
theorem b7.pj {F:Fr} {S:df} {β:bn} {hp:List (Nat×Ob)} {w:World} (M:Kf F S β hp w) (h:Kf F S β hp w→NK F S β hp w):b7 F S β hp w:=⟨M,h M⟩
theorem b7.tP {F:Fr} {S:df} {β:bn} {hp:List (Nat×Ob)} {w:World} (M:b7 F S β hp w):B7 w∧0<F.w0.heap.size:=by
 obtain ⟨⟨t,fz,h⟩,hM⟩:=M.pM
 have hlt:0<F.w0.heap.size:=(Array.getElem?_eq_some_iff.1 h).1
 exact ⟨⟨t,fz,(M.a6 0 hlt hM).trans h⟩,hlt⟩
theorem b7.N2 {F:Fr} {S:df} {β:bn} {hp:List (Nat×Ob)} {w:World} (M:b7 F S β hp w) {i:Nat} {bi:Bl} (h:β i=some bi):bi.bG≠0:=by
 intro e
 rcases (M.aX i bi h).2.2 with ⟨_,c⟩|c
 all_goals grind[M.pM,M.tP]
def ci (env:List (Nat×AV)) (t:Nat):AV:=(ae env t).getD .aB
def sx (S:df) (β:bn) (w:World) (n:Nat) (env:List (Nat×AV)) (a:Act):Prop:=
 a.tmps.size=n∧a.defers=[]∧∀t,V S β w (a.eval (.tmp t)) (ci env t)
structure lg (S S':df) (β β':bn) (w w':World):Prop where
 hS:∀b,S b→S' b
 hβ:∀i b,β i=some b→β' i=some b
 Uq:nI S w w'
theorem lg.bb (S:df) (β:bn) (w:World):lg S S β β w w:=⟨fun _ h=>h,fun _ _ h=>h,nI.bb S w⟩
theorem lg.ck {S S' S'':df} {β β' β'':bn} {w w' w'':World} (h:lg S S' β β' w w') (k:lg S' S'' β' β'' w' w''):lg S S'' β β'' w w'':=
 ⟨fun b hb=>k.hS b (h.hS b hb),fun i b hb=>k.hβ i b (h.hβ i b hb),h.Uq.ck (k.Uq.Up h.hS)⟩
theorem V.Ke {S S':df} {β β':bn} {w w':World} (e:lg S S' β β' w w') {v:Value} {x:AV} (h:V S β w v x):V S' β' w' v x:=h.bR e.hS e.hβ e.Uq
theorem sx.Ke {S S':df} {β β':bn} {w w':World} (e:lg S S' β β' w w') {n:Nat} {env:List (Nat×AV)} {a:Act} (h:sx S β w n env a):sx S' β' w' n env a:=
 ⟨h.1,h.2.1,fun t=>(h.2.2 t).Ke e⟩
theorem Act.rR {a:Act} {d:Nat} (h:d<a.tmps.size) (v:Value):(a.put (some d) v).eval (.tmp d)=v:=by
 simp [Act.put,Act.eval,h]
theorem Act.vu {a:Act} {d t:Nat} (h:d≠t) (v:Value):(a.put (some d) v).eval (.tmp t)=a.eval (.tmp t):=by
 simp_all[Act.put,Act.eval,Array.getD_eq_getD_getElem?,Array.getElem?_setIfInBounds_ne]
theorem sx.put {S:df} {β:bn} {w:World} {n:Nat} {env:List (Nat×AV)} {a:Act} (h:sx S β w n env a) {d:Nat} (hd:d<n) {v:Value} {x:AV} (hv:V S β w v x):
  sx S β w n (ba env d x) (a.put (some d) v):=by
 obtain ⟨h1,h2,h3⟩:=h
 refine ⟨by grind[Act.put],by grind[Act.put],fun t=> ?_⟩
 unfold ci
 rw [aq]
 by_cases e:d=t
 ·subst e
  rw [if_pos rfl,Act.rR (by omega)]
  grind
 ·rw [if_neg e,Act.vu e]
  exact h3 t
mutual
def aJ:AV→Bool
 | .al cs=>aa cs
 | .bC cs=>aa cs
 | .bZ _ a b=>aa a&&aa b
 | .bu _ v=>aJ v
 | .aw _ _ _=>false
 | .aO _ _=>false
 | .aA _ _ _=>false
 | .aI _=>false
 |_=>true
def aa:List AV→Bool
 |[]=>true
 |x::r=>aJ x&&aa r
end
theorem a8:∀{l:List AV},aa l=true↔∀x,x∈l→aJ x=true
 |[]=>by simp [aa]
 |x::r=>by
  simp only [aa,Bool.and_eq_true,a8 (l:=r),List.mem_cons]
  simp
theorem V.aJ {S:df} {β:bn} {w:World} {v:Value} {x:AV} (h:V S β w v x):Ped.aJ x=true→V S fo w v x:=by
 induction h with
 |aP k n=>intro _;exact .aP k n
 |ak b=>intro _;exact .ak b
 |J s=>intro _;exact .J s
 |al vs cs hl h ih=>intro hn;exact .al vs cs hl fun i v c h1 h2=>ih i v c h1 h2 (a8.1 hn c (List.mem_of_getElem? h2))
 |bC vs cs hl h ih=>intro hn;exact .bC vs cs hl fun i v c h1 h2=>ih i v c h1 h2 (a8.1 hn c (List.mem_of_getElem? h2))
 |aF p cap sz b o es clip U hcap hmax hclip hp hsz hc hv hnil ih=>intro _;exact .aF p cap sz b o es clip U hcap hmax hclip hp hsz hc hv
 |aw id off len a bi hb hle ha'=>intro hn;cases hn
 |aQ cap sz b o es xs U hcap hmax hb hsz hc hv ih=>intro _;exact .aQ cap sz b o es xs U hcap hmax hb hsz hc hv
 |ft id=>intro hn;cases hn
 |ix id len a bi hb hle ha' hn'=>intro hn;cases hn
 |aE b o cs U hb hc hv ih=>intro _;exact .aE b o cs U hb hc hv
 |aA id k off bi hb=>intro hn;cases hn
 |eK=>intro _;exact .eK
 |aX p cap sz es=>intro _;exact .aX p cap sz es
 |mB a cap hm=>intro _;exact .mB a cap hm
 |aI id bi hb=>intro hn;cases hn
 |bH r es cl ks vs hb hr hk hl hkv hvv ih1 ih2=>intro _;exact .bH r es cl ks vs hb hr hk hl hkv hvv
 |bh=>intro _;exact .bh
 |ab=>intro _;exact .ab
 |bZ f fs gs first cap hf hg hfv hgv ih1 ih2=>
  intro hn
  simp only [Ped.aJ,Bool.and_eq_true] at hn
  exact .bZ f fs gs first cap hf hg (fun i v c h1 h2=>ih1 i v c h1 h2 (a8.1 hn.1 c (List.mem_of_getElem? h2))) (fun i v c h1 h2=>ih2 i v c h1 h2 (a8.1 hn.2 c (List.mem_of_getElem? h2)))
 |eU=>intro _;exact .eU
 |bu t v x h ih=>intro hn;exact .bu t v x (ih hn)
 |eV=>intro _;exact .eV
 |aB v=>intro _;exact .aB v
theorem HR.mC {S S':df} {β:bn} {w:World} {bi:Bl} {es:List AV} (hS:∀b,S b→S' b) (h:HR S β w bi es) (hn:aa es=true):HR S' fo w bi es:=by
 obtain ⟨cur,t,r1,r2,r3,r4,r5,r6⟩:=h
 refine ⟨cur,t,r1,r2,r3,r4,r5,fun i j e c he hc=> ?_⟩
 obtain ⟨u,hu,hv⟩:=r6 i j e c he hc
 refine ⟨u,hu,(hv.aJ ?_).bR hS (fun _ _ h=>h) (nI.bb S w)⟩
 have hne:=a8.1 hn e (List.mem_of_getElem? he)
 cases e with
 |al cs=>exact a8.1 hne c (List.mem_of_getElem? hc)
 |_=>
  grind[AV.ac,List.mem_of_getElem?,List.mem_singleton]
mutual
def AV.jF:AV→AV→Bool
 | .aP k n,.aP k' n'=>decide (k=k')&&decide (n=n')
 | .ak b,.ak b'=>decide (b=b')
 | .J s,.J s'=>decide (s=s')
 | .al cs,.al cs'=>AV.jV cs cs'
 | .bC cs,.bC cs'=>AV.jV cs cs'
 | .aF es c,.aF es' c'=>AV.jV es es'&&decide (c=c')
 | .aw i o l,.aw i' o' l'=>decide (i=i')&&decide (o=o')&&decide (l=l')
 | .aO i l,.aO i' l'=>decide (i=i')&&decide (l=l')
 | .aE cs,.aE cs'=>AV.jV cs cs'
 | .aA i k o,.aA i' k' o'=>decide (i=i')&&decide (k=k')&&decide (o=o')
 | .eK,.eK=>true
 | .aI i,.aI i'=>decide (i=i')
 | .bH ks vs,.bH ks' vs'=>AV.jV ks ks'&&AV.jV vs vs'
 | .aQ ks vs,.aQ ks' vs'=>AV.jV ks ks'&&AV.jV vs vs'
 | .bh,.bh=>true
 | .ab,.ab=>true
 | .bZ f a b,.bZ f' a' b'=>decide (f=f')&&AV.jV a a'&&AV.jV b b'
 | .eU,.eU=>true
 | .bu t v,.bu t' v'=>decide (t=t')&&AV.jF v v'
 | .eV,.eV=>true
 | .mB,.mB=>true
 | .aX a es,.aX a' es'=>decide (a=a')&&AV.jV es es'
 | .aB,.aB=>true
 |_,_=>false
def AV.jV:List AV→List AV→Bool
 |[],[]=>true
 |x::r,y::s=>AV.jF x y&&AV.jV r s
 |_,_=>false
end
mutual
theorem AV.tQ:∀(x y:AV),AV.jF x y=true→x=y
 | .aP k n,y,h=>by cases y<;>simp [AV.jF] at h;obtain ⟨rfl,rfl⟩:=h;rfl
 | .ak b,y,h=>by cases y<;>simp [AV.jF] at h;subst h;rfl
 | .J s,y,h=>by cases y<;>simp [AV.jF] at h;subst h;rfl
 | .al cs,y,h=>by
   cases y with
   |al cs'=>simp only [AV.jF] at h;rw [AV.d9 cs cs' h]
   |_=>simp [AV.jF] at h
 | .bC cs,y,h=>by
   cases y with
   |bC cs'=>simp only [AV.jF] at h;rw [AV.d9 cs cs' h]
   |_=>simp [AV.jF] at h
 | .aF es c,y,h=>by
   cases y with
   |aF es' c'=>simp only [AV.jF,Bool.and_eq_true,decide_eq_true_eq] at h;rw [AV.d9 es es' h.1,h.2]
   |_=>simp [AV.jF] at h
 | .aw i o l,y,h=>by cases y<;>simp [AV.jF] at h;obtain ⟨⟨rfl,rfl⟩,rfl⟩:=h;rfl
 | .aO i l,y,h=>by cases y<;>simp [AV.jF] at h;obtain ⟨rfl,rfl⟩:=h;rfl
 | .aE cs,y,h=>by
   cases y with
   |aE cs'=>simp only [AV.jF] at h;rw [AV.d9 cs cs' h]
   |_=>simp [AV.jF] at h
 | .aA i o l,y,h=>by cases y<;>simp [AV.jF] at h;obtain ⟨⟨rfl,rfl⟩,rfl⟩:=h;rfl
 | .eK,y,h=>by cases y<;>simp [AV.jF] at h;rfl
 | .aI i,y,h=>by cases y<;>simp [AV.jF] at h;subst h;rfl
 | .aQ ks vs,y,h=>by
   cases y with
   |aQ ks' vs'=>simp only [AV.jF,Bool.and_eq_true] at h;rw [AV.d9 ks ks' h.1,AV.d9 vs vs' h.2]
   |_=>simp [AV.jF] at h
 | .bH ks vs,y,h=>by
   cases y with
   |bH ks' vs'=>simp only [AV.jF,Bool.and_eq_true] at h;rw [AV.d9 ks ks' h.1,AV.d9 vs vs' h.2]
   |_=>simp [AV.jF] at h
 | .bh,y,h=>by cases y<;>simp [AV.jF] at h;rfl
 | .ab,y,h=>by cases y<;>simp [AV.jF] at h;rfl
 | .bZ f a b,y,h=>by
   cases y with
   |bZ f' a' b'=>simp only [AV.jF,Bool.and_eq_true,decide_eq_true_eq] at h;rw [h.1.1,AV.d9 a a' h.1.2,AV.d9 b b' h.2]
   |_=>simp [AV.jF] at h
 | .eU,y,h=>by cases y<;>simp [AV.jF] at h;rfl
 | .bu t v,y,h=>by
   cases y with
   |bu t' v'=>simp only [AV.jF,Bool.and_eq_true,decide_eq_true_eq] at h;rw [h.1,AV.tQ v v' h.2]
   |_=>simp [AV.jF] at h
 | .eV,y,h=>by cases y<;>simp [AV.jF] at h;rfl
 | .mB,y,h=>by cases y<;>simp [AV.jF] at h;rfl
 | .aX a es,y,h=>by
   cases y with
   |aX a' es'=>simp only [AV.jF,Bool.and_eq_true,decide_eq_true_eq] at h;rw [h.1,AV.d9 es es' h.2]
   |_=>simp [AV.jF] at h
 | .aB,y,h=>by cases y<;>simp [AV.jF] at h;rfl
theorem AV.d9:∀(x y:List AV),AV.jV x y=true→x=y
 |[],[],_=>rfl
 |[],_::_,h=>by grind[AV.jV]
 |_::_,[],h=>by grind[AV.jV]
 |x::r,y::s,h=>by
  simp only [AV.jV,Bool.and_eq_true] at h
  rw [AV.tQ x y h.1,AV.d9 r s h.2]
end
class vo (p:Prop) where
 b:Bool
 h:b=true→p
instance (priority:=10) Uu {p:Prop} [Decidable p]:vo p:=⟨decide p,of_decide_eq_true⟩
instance Ut {p q:Prop} [hp:vo p] [hq:vo q]:vo (p∧q):=⟨hp.b&&hq.b,fun h=>by simp_all[Bool.and_eq_true,hp.h,hq.h]⟩
instance Z2 {x y:AV}:vo (x=y):=⟨AV.jF x y,AV.tQ x y⟩
instance Ur {x y:List AV}:vo (x=y):=⟨AV.jV x y,AV.d9 x y⟩
instance Z3 {l:List AV}:vo (l≠[]):=⟨match l with|[]=>false|_::_=>true,by grind⟩
instance Uv {x:Option AV} {y:AV}:vo (x=some y):=⟨match x with|some z=>AV.jF z y|none=>false,by
 grind[AV.tQ]⟩
instance Us {l:List AV} {p:AV→Prop} [hp:∀x,vo (p x)]:vo (∀x,x∈l→p x):=⟨l.all fun x=>(hp x).b,fun h x hx=>(hp x).h (List.all_eq_true.1 h x hx)⟩
instance T7 {o:Option UInt8} {m:Int}:vo (∃b:UInt8,o=some b∧m=b.toNat):=⟨match o with|some b=>decide (m=b.toNat)|none=>false,by
 grind⟩
structure iy where
 p:Prop
 b:Bool
 h:b=true→p
abbrev pN (p:Prop) [c:vo p]:iy:=⟨p,c.b,c.h⟩
abbrev ga (p:Prop):iy:=⟨p,false,fun h=>by grind⟩
instance T8 {c:iy}:vo c.p:=⟨c.b,c.h⟩
inductive cw where
 |aj
 |ar (id:Nat)
 |aR
 |gh (l:Nat)
inductive Rk where
 |a6 (j:Nat) (bare:Bool)
 |eX (t:Option (List AV×List AV))
abbrev Rk.dz:Rk:= .eX none
inductive cv where
 |a6
 |is (b:Bool)
 |aA (e:AV)
 |vw (s:ByteArray)
 |dO (r:AV) (rd:List Nat) (upd:List (Nat×Ob))
 |B3 (e:cw) (env:List (Nat×AV)) (hp:List (Nat×Ob))
 |Kg (e:cw) (env:List (Nat×AV)) (hp:List (Nat×Ob))
 |g8 (slots:List Nat) (tb:List (Nat×Rk))
 |N3 (m:Nat) (e:cw) (env:List (Nat×AV)) (hp:List (Nat×Ob))
 |tR
inductive Rd (α:Type) where
 |aR (a:α)
 |fu (id:Nat) (k:Ob→Rd α)
 |aY
def Rd.bL {α:Type} (h:Nat→Option Ob):Rd α→Option (α×List Nat)
 | .aR a=>some (a,[])
 | .fu id k=>match h id with
   |some o=>match (k o).bL h with
    |some (a,l)=>some (a,id::l)
    |none=>none
   |none=>none
 | .aY=>none
theorem Rd.sy {α:Type} {h h':Nat→Option Ob}:∀{r:Rd α} {a:α} {l:List Nat},r.bL h=some (a,l)→(∀id,id∈l→h' id=h id)→r.bL h'=some (a,l)
 | .aR _,_,_,e,_=>e
 | .fu id k,a,l,e,hl=>by
   simp only [Rd.bL] at e⊢
   cases ho:h id with
   |none=>grind
   |some o=>
    rw [ho] at e
    cases hk:(k o).bL h with
    |none=>grind
    |some x=>
     obtain ⟨b,m⟩:=x
     simp only [hk] at e
     injection e with e
     injection e with e1 e2
     subst e1;subst e2
     rw [hl id (by simp),ho]
     have:=Rd.sy hk (h':=h') (fun i hi=>hl i (by grind))
     grind
 | .aY,_,_,e,_=>by cases e
structure dT where
 v:AV
 eH:List (Nat×Ob):=[]
 dN:List Nat:=[]
 cs:List iy:=[]
 sc:List cv
def val (v:AV) (sc:List cv):Rd dT:= .aR {v:=v,sc:=sc}
def bS (v:AV) (c:Prop) [vo c] (sc:List cv):Rd dT:= .aR {v:=v,cs:=[pN c],sc:=sc}
def g9 (b:Bool):List cv→Rd dT
 | .is d::sc=>bS (.ak d) (b=d) sc
 | .a6::sc=>val (.ak b) sc
 |_=> .aY
def pQ:Value→AV
 | .int k n=> .aP k n
 | .bool b=> .ak b
 | .string s=> .J s
 | .pointer none=> .eK
 | .slice none 0 0=> .ab
 | .map none=> .bh
 | .nilFunc=> .eU
 | .nilIface=> .eV
 |_=> .aB
def tW:Value→AV
 | .agg cs=> .al (cs.toList.map pQ)
 |v=>pQ v
def a7 (env:List (Nat×AV)):Operand→AV
 | .tmp t=>ci env t
 | .const v=>tW v
 | .func f=> .bZ f [] []
 | .global _=> .aB
def cJ (P:Program) (t:TypeId):Option Nat:=(P.info? t).map (·.size)
def ik (P:Program) (t:TypeId):Option Bool:=
 match P.underlying t with
 |some (.struct _)=>some true
 |some (.array _ _)=>some true
 |some _=>some false
 |none=>none
def b8:AV→AV
 | .ab=> .aF [] true
 | .mB=> .aF [] false
 |x=>x
def xz:AV→AV
 | .aQ es _=> .aF es false
 |x=>x
def sB (b:Bool):AV→AV→AV
 | .ak x,.ak y=> .ak (bif b then x else y)
 |x,y=>bif b then x else y
def xx:AV→Bool
 | .aX _ _=>true
 |_=>false
def nJ (l:List AV):Bool:=l.any xx
theorem AG {l:List AV} (h:nJ l=false) {j sz:Nat} {es:List AV}:l[j]? ≠some (.aX sz es):=by
 intro hj
 have:nJ l=true:=List.any_eq_true.2 ⟨_,List.mem_of_getElem? hj,rfl⟩
 grind
def jY (d:Nat) (x:AV) (sc:List cv):Rd dT:=if nJ x.ac=true then .aY else .aR {v:= .aA d 0 0,eH:=[(d,.an x.ac)],dN:=[d],sc:=sc}
def cx:AV→Bool
 | .aB=>true
 |_=>false
def gg (P:Program) (t:TypeId) (cs:List AV):Option AV:=
 match ik P t,cJ P t with
 |some true,some n=>if n≤cs.length then some (.al (cs.take n)) else none
 |some false,some _=>cs.head?
 |_,_=>none
def yX (P:Program) (t:TypeId):AV→List cv→Rd dT
 | .aE cs,sc=>match gg P t cs with
   |some v=>val v sc
   |none=> .aY
 | .aA id k off,sc=> .fu id fun
   | .an cs=>if k=0 then (match gg P t (cs.drop off) with
     |some v=>val v sc
     |none=> .aY) else .aY
   | .aw _ es=>match sc with
     | .aA e::sc=>(match gg P t (e.ac.drop off) with
       |some v=>bS v (es[k]? =some e) sc
       |none=> .aY)
     |_=> .aY
   | .ao _ es=>match sc with
     | .aA e::sc=>(match gg P t (e.ac.drop off) with
       |some v=>bS v (es[k]? =some e) sc
       |none=> .aY)
     |_=> .aY
   |_=> .aY
 |_,_=> .aY
def cj:AV→Bool
 | .al _=>false
 | .bC _=>false
 | .aX _ _=>false
 | .aB=>false
 |_=>true
def c8 (n:Nat) (e:AV):Prop:=e.ac.length=n∧∀c,c∈e.ac→cj c=true
instance Uw {n:Nat} {e:AV}:vo (c8 n e):=inferInstanceAs (vo (e.ac.length=n∧∀c,c∈e.ac→cj c=true))
def ef (cs:List AV) (off:Nat) (xs:List AV):List AV:=cs.take off++xs++cs.drop (off+xs.length)
def xy (P:Program) (t:TypeId) (p x:AV) (sc:List cv):Rd dT:=
 if x.ac.all cj=false then .aY else
 if cJ P t≠some x.ac.length then .aY else
 match p with
 | .aA id k off=> .fu id fun
   | .an cs=>if k=0∧off+x.ac.length≤cs.length then .aR {v:= .aB,eH:=[(id,.an (ef cs off x.ac))],sc:=sc} else .aY
   | .aw sz es=>
     if off=0∧x.ac.length=sz then .aR {v:= .aB,eH:=[(id,.aw sz (es.set k x))],cs:=[pN (k<es.length)],sc:=sc}
     else match sc with
      | .aA e::sc=>if off+x.ac.length≤e.ac.length then .aR {v:= .aB,eH:=[(id,.aw sz (es.set k (.al (ef e.ac off x.ac))))],cs:=[pN (es[k]? =some e)],sc:=sc} else .aY
      |_=> .aY
   | .ao sz es=>if off=0∧x.ac.length=sz then .aR {v:= .aB,eH:=[(id,.ao sz (es.set k x))],cs:=[pN (k<es.length)],sc:=sc} else .aY
   |_=> .aY
 |_=> .aY
def jX (place:Nat→Option (Nat×Nat)) (cells:List AV):List (Nat×AV)→Option (List AV)
 |[]=>some cells
 |(i,v)::rest=>match place i with
  |none=>none
  |some (off,size)=>if cx v∨v.ac.length≠size∨off+v.ac.length>cells.length then none else jX place (ef cells off v.ac) rest
def dw (P:Program) (t:TypeId):Option AV:=((P.info? t).bind (·.zero)).map tW
def xn (P:Program) (t:TypeId) (parts:List (Nat×AV)) (sc:List cv):Rd dT:=
 match P.underlying t,dw P t with
 |some (.struct fields),some z=>
  (match fields.toList.mapM (fun f=>(P.info? f.type).map fun i=>(f.offset,i.size)) with
  |some places=>(match jX (places.toArray[·]?) z.ac parts with
   |some cs=>if cx z then .aY else val (.al cs) sc
   |none=> .aY)
  |none=> .aY)
 |some (.array _ e),some z=>
  (match cJ P e with
  |some size=>(match jX (fun i=>some (i*size,size)) z.ac parts with
   |some cs=>if cx z then .aY else val (.al cs) sc
   |none=> .aY)
  |none=> .aY)
 |_,_=> .aY
def B' (P:Program) (d:Nat) (t:TypeId) (n:Nat) (parts:List (Nat×AV)) (sc:List cv):Rd dT:=
 match P.underlying t with
 |some (.slice e)=>match cJ P e,dw P e with
  |some sz,some z=>
   if n=0 then (if parts.isEmpty then val (.aF [] true) sc else .aY) else
   if parts.map (·.1)=List.range n∧parts.all (fun x=> !cx x.2&&x.2.ac.length==sz)∧n*sz≤16777216∧0<sz∧z.ac.length=sz then
    match sc with
    | .tR::sc=>bS (.aF (parts.map (·.2)) false) (aa (parts.map (·.2))=true) sc
    |sc=> .aR {v:= .aw d 0 n,eH:=[(d,.aw sz (parts.map (·.2)))],dN:=[d],sc:=sc}
   else .aY
  |_,_=> .aY
 |_=> .aY
def tZ (P:Program) (s:TypeId) (f:Nat):Option Nat:=
 match P.underlying s with
 |some (.struct fields)=>match fields[f]? with
  |some x=>match cJ P x.type with
   |some 0=>none
   |some _=>some x.offset
   |none=>none
  |none=>none
 |_=>none
def lK (P:Program) (s:TypeId) (f:Nat) (p:AV) (sc:List cv):Rd dT:=
 match tZ P s f with
 |some o=>match p with
  | .aA id k off=>val (.aA id k (off+o)) sc
  | .aE cs=>val (.aE (cs.drop o)) sc
  |_=> .aY
 |none=> .aY
def xq (P:Program) (s:TypeId) (f:Nat) (x:AV) (sc:List cv):Rd dT:=
 match P.underlying s,x with
 |some (.struct fields),.al cs=>match fields[f]? with
  |some g=>match gg P g.type (cs.drop g.offset) with
   |some v=>val v sc
   |none=> .aY
  |none=> .aY
 |_,_=> .aY
def mH (P:Program) (t:TypeId):Option (TypeId×Nat):=
 match P.underlying t with
 |some (.slice e)=>(cJ P e).map fun n=>(e,n)
 |_=>none
def lL (P:Program) (t:TypeId) (x:AV) (n:Int) (sc:List cv):Rd dT:=
 match mH P t with
 |some (_,size)=>match x with
  | .aF es _=>(match sc with
    | .aA e::sc=>if e.ac.length=size then bS (.aE e.ac) (0≤n∧es[n.toNat]? =some e) sc else .aY
    |_=> .aY)
  | .aw id off len=> .fu id fun
    | .aw sz _=>if sz=size then bS (.aA id (off+n.toNat) 0) (0≤n∧n<len) sc else .aY
    |_=> .aY
  | .aO id len=> .fu id fun
    | .ao sz es=>if sz=size then bS (.aA id n.toNat 0) (0≤n∧n<len∧len≤es.length) sc else .aY
    |_=> .aY
  |_=> .aY
 |none=> .aY
def xr (P:Program) (t:TypeId) (x:AV) (n:Int) (sc:List cv):Rd dT:=
 match P.underlying t,x with
 |some .string,.J s=>(match sc with
  | .aA (.aP .u8 m)::sc=>bS (.aP .u8 m) (0≤n∧∃b:UInt8,s.data.toList[n.toNat]? =some b∧m=b.toNat) sc
  |_=> .aY)
 |_,_=> .aY
def pO (k:IntKind) (n:Int) (sc:List cv):Rd dT:=bS (.aP k n) (k.wrap n=n) sc
def AF (P:Program) (f:TypeId→List AV→List AV→Option (Bool×List AV×List AV)):List Field→Nat→List AV→List AV→Option (Bool×List AV×List AV)
 |[],_,xs,ys=>some (true,xs,ys)
 |g::gs,n,xs,ys=>
  if g.offset=n∧g.name≠ "_" then
   match f g.type xs ys,cJ P g.type,ik P g.type with
   |some (c,xs',ys'),some m,some b=>
    if xs.length=m+xs'.length∧ys.length=m+ys'.length∧(b=false→m=1) then
     match AF P f gs (n+m) xs' ys' with
     |some (r,xs'',ys'')=>some (c&&r,xs'',ys'')
     |none=>none
    else none
   |_,_,_=>none
  else none
def tY (P:Program):Nat→TypeId→List AV→List AV→Option (Bool×List AV×List AV)
 |0,_,_,_=>none
 |d+1,t,xs,ys=>match P.underlying t,xs,ys with
  |some (.int _),.aP k p::xs,.aP k' q::ys=>if k=k' then some (decide (p=q),xs,ys) else none
  |some .bool,.ak p::xs,.ak q::ys=>some (decide (p=q),xs,ys)
  |some .string,.J p::xs,.J q::ys=>some (decide (p=q),xs,ys)
  |some (.struct fields),xs,ys=>if P.stoodInHeld t=true then none else AF P (tY P d) fields.toList 0 xs ys
  |_,_,_=>none
def Fb (op:BinOp) (a b:Int):Option Bool:=
 match op with
 | .eql=>some (decide (a=b))
 | .neq=>some (!decide (a=b))
 | .lss=>some (decide (a<b))
 | .leq=>some (decide (a≤b))
 | .gtr=>some (decide (b<a))
 | .geq=>some (decide (b≤a))
 |_=>none
def eI (a b:Int):Int:=a*2^b.toNat
def Ca (op:BinOp) (k:IntKind) (a b:Int) (sc:List cv):Rd dT:=
 match op with
 | .shl=>bS (.aP k (k.wrap (a*2^min b.toNat k.bits))) (0≤b) sc
 | .shr=>bS (.aP k (a.fdiv (2^min b.toNat k.bits))) (0≤b) sc
 |_=> .aY
def yW (op:BinOp) (k:IntKind) (a b:Int) (sc:List cv):Rd dT:=
 match op with
 | .and=>val (.aP k (k.wrap ((BitVec.ofInt k.bits a&&&BitVec.ofInt k.bits b).toNat:Nat))) sc
 | .or=>val (.aP k (k.wrap ((BitVec.ofInt k.bits a|||BitVec.ofInt k.bits b).toNat:Nat))) sc
 | .xor=>val (.aP k (k.wrap ((BitVec.ofInt k.bits a^^^BitVec.ofInt k.bits b).toNat:Nat))) sc
 | .andNot=>val (.aP k (k.wrap ((BitVec.ofInt k.bits a&&& ~~~BitVec.ofInt k.bits b).toNat:Nat))) sc
 | .quo=>bS (.aP k (k.wrap (a.tdiv b))) (b≠0) sc
 | .rem=>bS (.aP k (a.tmod b)) (b≠0) sc
 | .shr=>bS (.aP k (a.fdiv (2^min b.toNat k.bits))) (0≤b) sc
 |_=> .aY
def tU (P:Program) (op:BinOp) (t:TypeId) (x y:AV) (sc:List cv):Rd dT:=
 match x,y with
 | .aP k a,.aP k' b=>
   if k=k' then
    match op with
    | .add=>pO k (a+b) sc
    | .sub=>pO k (a-b) sc
    | .mul=>pO k (a*b) sc
    | .shl=>bS (.aP k (eI a b)) (0≤b∧b.toNat≤k.bits∧k.wrap (eI a b)=eI a b) sc
    |_=>match Fb op a b with
     |some c=>g9 c sc
     |none=>yW op k a b sc
   else Ca op k a b sc
 | .J a,.J b=>match op with
   | .add=>bS (.J (a++b)) (a.size+b.size≤9223372036854775807) sc
   | .eql=>g9 (decide (a=b)) sc
   | .neq=>g9 (!decide (a=b)) sc
   | .lss=>g9 (Op.bytesLess a.toList b.toList) sc
   |_=> .aY
 | .ak a,.ak b=>if P.underlying t matches some .bool then (match op with
   | .eql=>g9 (decide (a=b)) sc
   | .neq=>g9 (!decide (a=b)) sc
   |_=> .aY) else .aY
 |_,_=> .aY
def xw:TypeDesc→AV→AV→Option Bool
 | .slice _,.ab,.ab=>some true
 | .slice _,.aw _ _ _,.ab=>some false
 | .slice _,.aF (_::_) _,.ab=>some false
 | .slice _,.mB,.ab=>some false
 | .slice _,.aO _ n,.ab=>some (Nat.beq n 0)
 | .map _ _,.bh,.bh=>some true
 | .map _ _,.aI _,.bh=>some false
 | .map _ _,.bH _ _,.bh=>some false
 | .pointer _,.eK,.eK=>some true
 | .pointer _,.aA _ _ _,.eK=>some false
 | .pointer _,.aE _,.eK=>some false
 | .func _ _ _,.eU,.eU=>some true
 | .func _ _ _,.bZ _ _ _,.eU=>some false
 | .interface _,.bu _ _,.eV=>some false
 |_,_,_=>none
def xu:AV→Bool
 | .ab=>true
 | .bh=>true
 | .eK=>true
 | .eU=>true
 | .eV=>true
 |_=>false
def Fc (P:Program) (op:BinOp) (t:TypeId) (x y:AV) (sc:List cv):Rd dT:=
 match P.underlying t with
 |some d=>match xw d x y,op with
  |some b,.eql=>g9 b sc
  |some b,.neq=>g9 (!b) sc
  |_,_=> .aY
 |none=> .aY
def tX (P:Program) (op:BinOp) (t:TypeId) (x y:AV) (sc:List cv):Rd dT:=
 match x,y with
 | .al xs,.al ys=>
   if P.eqGuardType P.depth t=false∧ik P t=some true then
    match tY P 20 t xs ys,op with
    |some (b,[],[]),.eql=>g9 b sc
    |some (b,[],[]),.neq=>g9 (!b) sc
    |_,_=> .aY
   else .aY
 |_,_=> .aY
def NL (P:Program) (e:TypeId):Bool:=
 match P.underlying e with
 |some (.int .u8)=>true
 |_=>false
def xo (id off len:Nat):List cv→Rd dT
 | .vw s::sc=> .fu id fun
   | .aw sz es=>if sz=1 then bS (.J s) (off=0∧len=s.size∧es.take len=s.data.toList.map fun b=> .aP .u8 b.toNat) sc else .aY
   |_=> .aY
 |_=> .aY
def pR (P:Program) (src dst:TypeId) (x:AV) (sc:List cv):Rd dT:=
 match P.underlying src,P.underlying dst,x with
 |some (.int _),some (.int k),.aP _ n=>pO k n sc
 |some .string,some .string,.J s=>val (.J s) sc
 |some (.slice e),some .string,.aw id off len=>
  if NL P e=true then xo id off len sc else .aY
 |some .string,some (.slice e),.J s=>
  if NL P e=true then bS (.aF (s.data.toList.map fun b=> .aP .u8 b.toNat) false) (s.size≤maxLen) sc else .aY
 |_,_,_=> .aY
def lM (P:Program) (d:Nat) (t:TypeId) (n c:Int) (sc:List cv):Rd dT:=
 match P.underlying t with
 |some (.slice e)=>match P.info? e,dw P e with
  |some i,some z=>if z.ac.length=i.size∧0<i.size∧¬cx z then
   .aR {v:= .aw d 0 n.toNat,eH:=[(d,.aw i.size (List.replicate n.toNat z))],dN:=[d],cs:=[pN (n=c∧0≤n∧n*i.bytes≤140737488355328∧n≤9223372036854775807)],sc:=sc} else .aY
  |_,_=> .aY
 |_=> .aY
def lN (P:Program) (t:TypeId) (x:AV) (lo hi mx:Option AV) (sc:List cv):Rd dT:=
 match mH P t with
 |some (_,size)=>(match x,lo,hi,mx with
  | .aw id off len,none,some (.aP _ h),none=> .fu id fun
    | .aw _ es=>bS (.aw id off h.toNat) (0≤h∧off+h.toNat≤es.length) sc
    |_=> .aY
  | .aw id off len,some (.aP _ l),none,none=> .fu id fun
    | .aw sz _=>if sz=size then bS (.aw id (off+l.toNat) (len-l.toNat)) (0≤l∧l≤len) sc else .aY
    |_=> .aY
  | .aF es _,some (.aP _ l),none,none=>bS (.aF (es.drop l.toNat) false) (0≤l∧l≤es.length∧∀e,e∈es→e.ac.length=size) sc
  | .aF es _,none,some (.aP _ h),none=>bS (.aF (es.take h.toNat) false) (0≤h∧h≤es.length) sc
  | .aQ es xs,none,some (.aP _ h),none=>bS (.aF (es++xs) false) (h=((es.length+xs.length:Nat):Int)) sc
  | .aF _ _,none,some (.aP _ 0),some (.aP _ 0)=>val (.aF [] true) sc
  | .aw _ _ _,none,some (.aP _ 0),some (.aP _ 0)=>val (.aF [] true) sc
  | .aw id off _,some (.aP _ l),some (.aP _ h),none=> .fu id fun
    | .aw sz es=>if sz=size then bS (.aw id (off+l.toNat) (h.toNat-l.toNat)) (0≤l∧l≤h∧off+h.toNat≤es.length) sc else .aY
    |_=> .aY
  | .aw id off _,some (.aP _ l),some (.aP _ h),some (.aP _ m)=> .fu id fun
    | .aw _ es=>bS .aB (0≤l∧l≤h∧h≤m∧off+m.toNat≤es.length) sc
    |_=> .aY
  | .aF es _,some (.aP _ l),some (.aP _ h),none=>bS (.aF ((es.take h.toNat).drop l.toNat) false) (0≤l∧l≤h∧h≤es.length∧∀e,e∈es→e.ac.length=size) sc
  |_,_,_,_=> .aY)
 |none=> .aY
def Kh (P:Program) (t:TypeId) (s:ByteArray) (lo hi:Option AV) (sc:List cv):Rd dT:=
 match P.underlying t with
 |some .string=>(match lo,hi with
  |none,some (.aP _ h)=>bS (.J (s.extract 0 h.toNat)) (0≤h∧h≤s.size) sc
  |some (.aP _ l),none=>bS (.J (s.extract l.toNat s.size)) (0≤l∧l≤s.size) sc
  |some (.aP _ l),some (.aP _ h)=>bS (.J (s.extract l.toNat h.toNat)) (0≤l∧l≤h∧h≤s.size) sc
  |_,_=> .aY)
 |_=> .aY
def Ki (P:Program) (t:TypeId) (x:AV) (sc:List cv):Rd dT:=
 match P.underlying t,x with
 |some (.slice _),.aF es _=>val (.aP .i64 es.length) sc
 |some (.slice _),.aw _ _ n=>val (.aP .i64 n) sc
 |some (.slice _),.aO _ n=>val (.aP .i64 n) sc
 |some (.slice _),.aX _ es=>val (.aP .i64 es.length) sc
 |some .string,.J s=>val (.aP .i64 s.size) sc
 |some (.map _ _),.aI id=> .fu id fun
  | .aI ks _=>val (.aP .i64 ks.length) sc
  |_=> .aY
 |some (.map _ _),.bh=>val (.aP .i64 0) sc
 |some (.map _ _),.bH ks _=>val (.aP .i64 ks.length) sc
 |some (.array n _),_=>val (.aP .i64 n) sc
 |_,_=> .aY
def ed:AV→(List AV→iy→Rd dT)→Rd dT
 | .aF es _,k=>k es (pN True)
 | .aw id off len,k=> .fu id fun
   | .aw _ es=>k ((es.drop off).take len) (pN (off+len≤es.length))
   |_=> .aY
 | .aO id len,k=> .fu id fun
   | .ao _ es=>k (es.take len) (pN (len≤es.length))
   |_=> .aY
 |_,_=> .aY
def Fd (id:Nat):AV→Bool
 | .aO j _=> !Nat.beq j id
 |_=>true
def fq (P:Program) (d:Nat) (t:TypeId) (x y:AV) (sc:List cv):Rd dT:=
 match P.underlying t with
 |some (.slice e)=>match P.info? e,dw P e with
  |some i,some z=>
   if z.ac.length=i.size∧0<i.size∧¬cx z then
    match x,sc with
    | .aF es c,.is false::sc=>ed y fun ys q=>bS (.aF es c) (q.p∧ys=[]) sc
    | .aw id off len,.is false::sc=>ed y fun ys q=>bS (.aw id off len) (q.p∧ys=[]) sc
    | .aF es true,.is true::sc=>ed y fun ys q=>
      .aR {v:= .aw d 0 (es.length+ys.length),eH:=[(d,.aw i.size (es++ys))],dN:=[d],cs:=[pN (q.p∧ys≠[]∧(∀e,e∈ys→c8 i.size e)∧(∀e,e∈es→c8 i.size e)∧((es.length+ys.length:Nat):Int)*i.bytes≤140737488355328∧es.length+ys.length≤maxLen)],sc:=sc}
    | .aw id off len,.vw _::sc=> .fu id fun
      | .aw sz es=>ed y fun ys q=>
        if sz=i.size then
         .aR {v:= .aw id off (len+ys.length),eH:=[(id,.aw sz (es.take len++ys++es.drop (len+ys.length)))],cs:=[pN (q.p∧off=0∧len+ys.length≤es.length∧(∀e,e∈ys→c8 i.size e)∧ys≠[])],sc:=sc}
        else .aY
      |_=> .aY
    | .aw id off len,.is true::sc=> .fu id fun
      | .aw sz es=>ed y fun ys q=>
        if sz=i.size∧(id<mid∨mid≤d) then
         .aR {v:= .aw d 0 (len+ys.length),eH:=[(id,.aB),(d,.aw sz (es++ys))],dN:=[d],cs:=[pN (q.p∧off=0∧len=es.length∧(∀e,e∈ys→c8 i.size e)∧(∀e,e∈es→c8 i.size e)∧((len+ys.length:Nat):Int)*i.bytes≤140737488355328∧len+ys.length≤maxLen)],sc:=sc}
        else .aY
      |_=> .aY
    | .aO id len,.is false::sc=>ed y fun ys q=>bS (.aO id len) (q.p∧ys=[]) sc
    | .aO id len,.is true::sc=> .fu id fun
      | .ao sz es=>ed y fun ys q=>
        if sz=i.size∧(id<mid∨mid≤d)∧Fd id y=true then
         .aR {v:= .aO d (len+ys.length),eH:=[(id,.aB),(d,.ao sz (es++ys))],dN:=[d],cs:=[pN (q.p∧len=es.length∧(∀e,e∈ys→c8 i.size e)∧(∀e,e∈es→c8 i.size e)∧((len+ys.length:Nat):Int)*i.bytes≤140737488355328∧len+ys.length≤maxLen)],sc:=sc}
        else .aY
      |_=> .aY
    |_,_=> .aY
   else .aY
  |_,_=> .aY
 |_=> .aY
def Cb:List Nat→(List (Nat×Ob)→Rd dT)→Rd dT
 |[],k=>k []
 |id::r,k=> .fu id fun o=>Cb r fun l=>k ((id,o)::l)
def bK (P:Program) (f:FuncId) (args:List AV) (pre:List (Nat×Ob)) (r:AV) (upd:List (Nat×Ob)):Prop:=
 ∀(F:Fr) (S:df) (β:bn) (hp:List (Nat×Ob)) (w:World) (vs:List Value),b7 F S β hp w→vs.length=args.length→(∀(i:Nat) v x,vs[i]? =some v→args[i]? =some x→V S β w v x)→
  (∀id o,(id,o)∈pre→ae hp id=some o)→(∀id o,(id,o)∈upd→(∀o',(id,o')∉pre)→ae hp id=none)→
  Calls P f vs.toArray w fun e w'=>∃v S' β',e= .returned v∧lg S S' β β' w w'∧b7 F S' β' (upd.foldl (fun h x=>ba h x.1 x.2) hp) w'∧V S' β' w' v r
def mE (P:Program) (f:AV) (args:List AV) (sc:List cv):Rd dT:=
 match f,sc with
 | .bZ g first cap,.dO r rd upd::sc=>
   match P.funcs[g]? with
   |some fn=>if fn.body.isSome∧fn.name≠ "runtime.NumGoroutine" then
    Cb rd fun pre=> .aR {v:=r,eH:=upd,dN:=(upd.map (·.1)).filter (fun i=> !rd.contains i),cs:=[ga (bK P g (first++args++cap) pre r upd)],sc:=sc} else .aY
   |none=> .aY
 |_,_=> .aY
def mJ (P:Program) (t:TypeId) (name:String):Option FuncId:=
 match P.info? t with
 |some i=>match i.methods.find? (·.name==name) with
  |some m=>if m.path.toList.isEmpty then (match m.func,P.underlying t with
   |some (f,true),some (.pointer _)=>some f
   |some (_,false),some (.pointer _)=>none
   |some (f,false),some _=>some f
   |_,_=>none) else none
  |none=>none
 |none=>none
def pu (P:Program) (name:String) (x:AV) (args:List AV) (sc:List cv):Rd dT:=
 match x with
 | .bu t v=>match mJ P t name with
   |some g=>mE P (.bZ g [] []) (v::args) sc
   |none=> .aY
 |_=> .aY
def xp (P:Program) (t:TypeId) (x:AV) (sc:List cv):Rd dT:=
 match P.underlying t with
 |some (.slice e)=>match dw P e,cJ P e with
  |some z,some size=>(match x with
   | .aF [] _=>val (.bC []) sc
   | .aw id off len=> .fu id fun
     | .aw sz es=>if sz=size∧z.ac.length=size∧0<size∧z.ac.all cj=true then .aR {v:= .bC [],eH:=[(id,.aw sz (es.take off++List.replicate len z++es.drop (off+len)))],cs:=[pN (off+len≤es.length)],sc:=sc} else .aY
     |_=> .aY
   |_=> .aY)
  |_,_=> .aY
 |_=> .aY
def B8 (P:Program) (t:TypeId) (x y:AV) (sc:List cv):Rd dT:=
 match mH P t with
 |some (e,size)=>match x with
  | .aw id off len=> .fu id fun
    | .aw sz es=>ed y fun ys q=>
      if sz=size then .aR {v:= .aP .i64 (ys.length:Nat),eH:=[(id,.aw sz (es.take off++ys++es.drop (off+ys.length)))],cs:=[pN (q.p∧ys.length≤len∧off+len≤es.length∧(∀e,e∈ys→c8 size e)∧ys≠[])],sc:=sc} else .aY
    |_=> .aY
  |_=> .aY
 |none=> .aY
def B9 (id:Nat) (sc:List cv):Rd dT:= .fu id fun
 | .iw (.stringIter s pos)=>match sc with
   | .is false::sc=> .aR {v:= .bC [.ak false],eH:=[(id,.iw (.stringIter s pos))],cs:=[ga (s.size≤pos)],sc:=sc}
   | .aA (.aP .i32 c)::sc=> .aR {v:= .bC [.ak true,.aP .i64 (pos:Nat),.aP .i32 c],eH:=[(id,.iw (.stringIter s (pos+1)))],cs:=[ga (pos<s.size∧∃k:Nat,c=(k:Int)∧Utf8.decode s pos=(k,1))],sc:=sc}
   |_=> .aY
 |_=> .aY
def mD (P:Program) (d:Nat) (b:Builtin) (ts:Array TypeId) (vs:List AV) (sc:List cv):Rd dT:=
 match b,ts.toList,vs with
 | .len,[t],[x]=>Ki P t (xz (b8 x)) sc
 | .append,[t,u],[x,y]=>if t=u then (match sc with
   | .aA (.aP .i64 m)::sc=>fq P m.toNat t (b8 x) (b8 y) (.is true::sc)
   |sc=>fq P d t (b8 x) (b8 y) sc) else .aY
 | .clear,[t],[x]=>xp P t (b8 x) sc
 | .copy,[t,_],[x,y]=>B8 P t (b8 x) (b8 y) sc
 | .max,[_,_],[.aP k p,.aP _ q]=>val (.aP k (if q>p then q else p)) sc
 | .min,[_,_],[.aP k p,.aP _ q]=>val (.aP k (if q<p then q else p)) sc
 |_,_,_=> .aY
def pP (P:Program) (t:TypeId):Bool:=
 match P.underlying t with
 |some (.interface _)=>false
 |some _=>true
 |none=>false
def iW:AV→Bool
 | .al _=>true
 |_=>false
def mF (P:Program) (t:TypeId) (x:AV) (lo hi mx:Option AV) (sc:List cv):Rd dT:=
 match x with
 | .J s=>Kh P t s lo hi sc
 |x=>lN P t x lo hi mx sc
def oM (s:Bool):AV→AV→Option Bool
 | .aP k a,.aP k' b=>if s=false∧k=k' then some (decide (a=b)) else none
 | .J a,.J b=>if s=true then some (decide (a=b)) else none
 |_,_=>none
def bs (s:Bool) (k:AV):List AV→Nat→Option (Option Nat)
 |[],_=>some none
 |x::r,i=>match oM s k x with
  |some true=>some (some i)
  |some false=>bs s k r (i+1)
  |none=>none
def mI (P:Program) (t:TypeId):Option (TypeId×TypeId×Bool):=
 match P.underlying t with
 |some (.map k e)=>match P.underlying k with
  |some .string=>some (k,e,true)
  |some (.int _)=>some (k,e,false)
  |_=>none
 |_=>none
def nK (ok:Bool) (v:AV) (b:Bool):AV:=bif ok then .bC [v,.ak b] else v
def il (P:Program) (e:TypeId) (ok:Bool) (vs:List AV) (r:Option (Option Nat)):List cv→Rd dT
 | .aA v::sc=> .aR {v:=nK ok v true,cs:=[ga (∃j,r=some (some j)∧vs[j]? =some v)],sc:=sc}
 | .is false::sc=>match dw P e with
   |some z=> .aR {v:=nK ok z false,cs:=[ga (r=some none)],sc:=sc}
   |none=> .aY
 |sc=>match r with
  |some (some i)=>match vs[i]? with
   |some v=>val (nK ok v true) sc
   |none=> .aY
  |some none=>match dw P e with
   |some z=>val (nK ok z false) sc
   |none=> .aY
  |none=> .aY
def jZ (r:Option (Option Nat)):List cv→Option (Option Nat×iy×List cv)
 | .aA (.aP .i64 n)::sc=>some (some n.toNat,ga (r=some (some n.toNat)),sc)
 | .is false::sc=>some (none,ga (r=some none),sc)
 |sc=>match r with
  |some q=>some (q,pN True,sc)
  |none=>none
theorem iX {r:Option (Option Nat)} {sc sc':List cv} {q:Option Nat} {c:iy} (h:jZ r sc=some (q,c,sc')) (hc:c.p):r=some q:=by
 unfold jZ at h
 grind
def pv (P:Program) (t:TypeId) (m k:AV) (ok:Bool) (sc:List cv):Rd dT:=
 match mI P t with
 |some (_,e,s)=>match m with
  | .bh=>il P e ok [] (some none) sc
  | .bH ks vs=>il P e ok vs (bs s k ks 0) sc
  | .aI id=> .fu id fun
    | .aI ks vs=>il P e ok vs (bs s k ks 0) sc
    |_=> .aY
  |_=> .aY
 |none=> .aY
def px (P:Program) (t:TypeId) (m k v:AV) (sc:List cv):Rd dT:=
 match mI P t with
 |some (_,_,s)=>if xx v=true then .aY else match m with
  | .aI id=> .fu id fun
    | .aI ks vs=>(match jZ (bs s k ks 0) sc with
      |some (some i,c,sc)=> .aR {v:= .aB,eH:=[(id,.aI (ks.set i k) (vs.set i v))],cs:=[c],sc:=sc}
      |some (none,c,sc)=> .aR {v:= .aB,eH:=[(id,.aI (ks++[k]) (vs++[v]))],cs:=[c],sc:=sc}
      |none=> .aY)
    |_=> .aY
  |_=> .aY
 |none=> .aY
def mG (P:Program) (t:TypeId) (m k:AV) (sc:List cv):Rd dT:=
 match mI P t with
 |some (_,_,s)=>if AE k=true then (match m with
  | .aI id=> .fu id fun
    | .aI ks vs=>(match jZ (bs s k ks 0) sc with
      |some (some i,c,sc)=> .aR {v:= .bC [],eH:=[(id,.aI (ks.eraseIdx i) (vs.eraseIdx i))],cs:=[c,pN (∀v,v∈vs→xx v=false)],sc:=sc}
      |some (none,c,sc)=> .aR {v:= .bC [],eH:=[(id,.aI ks vs)],cs:=[c],sc:=sc}
      |none=> .aY)
    |_=> .aY
  |_=> .aY) else .aY
 |none=> .aY
def jW (P:Program) (d:Nat) (b:Builtin) (ts:Array TypeId) (vs:List AV) (sc:List cv):Rd dT:=
 match b,ts.toList,vs with
 | .delete,[t,_],[m,k]=>mG P t m k sc
 |b,_,vs=>mD P d b ts vs sc
theorem vz (P:Program) (d:Nat) (b:Builtin) (ts:Array TypeId) (vs:List AV) (sc:List cv):(∃t u m k,b= .delete∧ts.toList=[t,u]∧vs=[m,k]∧jW P d b ts vs sc=mG P t m k sc)∨jW P d b ts vs sc=mD P d b ts vs sc:=by
 unfold jW
 grind
def nL (P:Program) (t:TypeId):Bool:=
 match P.underlying t with
 |some .string=>true
 |some (.int _)=>true
 |some .bool=>true
 |_=>false
def fe (P:Program) (t:TypeId):Option (TypeId×TypeId×List Field):=
 match P.underlying t with
 |some (.map k e)=>match P.underlying k with
  |some (.struct fields)=>if fields.toList.all (fun f=>nL P f.type&&decide (cJ P f.type=some 1))=true then some (k,e,fields.toList) else none
  |_=>none
 |_=>none
def fv (P:Program) (t:TypeId) (xs:List AV):List AV→Nat→Option (Option Nat)
 |[],_=>some none
 | .al ys::r,i=>match tY P 20 t xs ys with
   |some (true,[],[])=>some (some i)
   |some (false,[],[])=>fv P t xs r (i+1)
   |_=>none
 |_::_,_=>none
def gC (l:List Field) (n:Nat):Bool:=l.all fun f=>decide (f.offset<n)
def pw (P:Program) (t:TypeId) (m k:AV) (ok:Bool) (sc:List cv):Rd dT:=
 match fe P t,k with
 |some (kt,e,l),.al xs=>if gC l xs.length=true then (match m with
  | .bh=>il P e ok [] (some none) sc
  | .aI id=> .fu id fun
    | .aI ks vs=>il P e ok vs (fv P kt xs ks 0) sc
    |_=> .aY
  |_=> .aY) else .aY
 |_,_=> .aY
def py (P:Program) (t:TypeId) (m k v:AV) (sc:List cv):Rd dT:=
 match fe P t,k with
 |some (kt,_,l),.al xs=>if gC l xs.length=true then (if xx v=true then .aY else match m with
  | .aI id=> .fu id fun
    | .aI ks vs=>(match jZ (fv P kt xs ks 0) sc with
      |some (none,c,sc)=> .aR {v:= .aB,eH:=[(id,.aI (ks++[k]) (vs++[v]))],cs:=[c],sc:=sc}
      |_=> .aY)
    |_=> .aY
  |_=> .aY) else .aY
 |_,_=> .aY
def tS (P:Program) (x:AV) (t:TypeId) (ok:Bool) (sc:List cv):Rd dT:=
 if pP P t=true then
  match x with
  | .bu d v=>if d=t then val (nK ok v true) sc else (match ok,dw P t with
    |true,some z=>val (nK true z false) sc
    |_,_=> .aY)
  | .eV=>(match ok,dw P t with
    |true,some z=>val (nK true z false) sc
    |_,_=> .aY)
  |_=> .aY
 else .aY
def cQ (P:Program) (d:Nat) (op:Op) (vs:List AV) (sc:List cv):Rd dT:=
 match op,vs with
 | .move _,[x]=>val x sc
 | .assign _,[x]=>val x sc
 | .pick _ _ _,[.ak c,x,y]=>val (sB c x y) sc
 | .alloc t,[]=>match dw P t with
   |some z=>if cx z then .aY else jY d z sc
   |none=> .aY
 | .box t _,[x]=>if cx x then .aY else jY d x sc
 | .build t ps,xs=>xn P t ((ps.toList.map (·.1)).zip xs) sc
 | .buildSlice t n ps,xs=>B' P d t n ((ps.toList.map (·.1)).zip xs) sc
 | .load t _,[p]=>yX P t p sc
 | .store t _ _,[p,x]=>xy P t p x sc
 | .nilCheck _,[.aA i k o]=>val (.aA i k o) sc
 | .nilCheck _,[.aE cs]=>val (.aE cs) sc
 | .binOp op t _ _ _,[x,y]=>if xu y=true then Fc P op t x y sc else if iW x=true then tX P op t x y sc else tU P op t x y sc
 | .unOp .not _ _,[.ak b]=>val (.ak (!b)) sc
 | .unOp .neg _ _,[.aP k n]=>val (.aP k (k.wrap (0-n))) sc
 | .convert s t _,[x]=>pR P s t x sc
 | .makeInterface t _,[x]=>if pP P t=true then val (.bu t x) sc else .aY
 | .makeFunc (.func f) first cap,xs=>if xs.length=first.size+cap.size then val (.bZ f (xs.take first.size) (xs.drop first.size)) sc else .aY
 | .makeSlice t _ _,[.aP .i64 n,.aP .i64 c]=>lM P d t n c sc
 | .slice t _ (some _) none none,[x,l]=>mF P t (b8 x) (some l) none none sc
 | .slice t _ none (some _) none,[x,h]=>mF P t (b8 x) none (some h) none sc
 | .slice t _ none (some _) (some _),[x,h,m]=>lN P t (b8 x) none (some h) (some m) sc
 | .slice t _ (some _) (some _) none,[x,l,h]=>mF P t (b8 x) (some l) (some h) none sc
 | .slice t _ (some _) (some _) (some _),[x,l,h,m]=>lN P t (b8 x) (some l) (some h) (some m) sc
 | .fieldAddr t _ f,[p]=>lK P t f p sc
 | .field t _ f,[x]=>xq P t f x sc
 | .indexAddr t _ _,[x,.aP _ n]=>lL P t (xz (b8 x)) n sc
 | .index t _ _,[x,.aP _ n]=>xr P t x n sc
 | .extract _ i,[.bC xs]=>(match xs[i]? with
   |some x=>val x sc
   |none=> .aY)
 | .typeAssert _ _ t ok,[x]=>tS P x t ok sc
 | .makeMap _ none,[]=> .aR {v:= .aI d,eH:=[(d,.aI [] [])],dN:=[d],sc:=sc}
 | .range t _,[.J s]=>(match P.underlying t with
   |some .string=> .aR {v:= .aA d 0 0,eH:=[(d,.iw (.stringIter s 0))],dN:=[d],sc:=sc}
   |_=> .aY)
 | .next _ true,[.aA id 0 0]=>B9 id sc
 | .lookup t _ _ ok,[m,k]=>if iW k=true then pw P t m k ok sc else pv P t m k ok sc
 | .mapUpdate t _ _ _,[m,k,v]=>if iW k=true then py P t m k v sc else px P t m k v sc
 | .call ⟨.value _,_,_⟩,f::args=>mE P f args sc
 | .call ⟨.invoke _ name,_,_⟩,x::args=>pu P name x args sc
 | .call ⟨.builtin b,_,ts⟩,xs=>jW P d b ts xs sc
 |_,_=> .aY
section
def bc (hp:List (Nat×Ob)) (upd:List (Nat×Ob)):List (Nat×Ob):=upd.foldl (fun h x=>ba h x.1 x.2) hp
def bn.nM (β:bn) (d:Nat) (bi:Bl):bn:=fun i=>if i=d then some bi else β i
theorem bn.cV (β:bn) (d:Nat) (bi:Bl):β.nM d bi d=some bi:=by simp [bn.nM]
theorem bn.dQ {β:bn} {d:Nat} {bi:Bl} (h:β d=none):∀i b,β i=some b→β.nM d bi i=some b:=by
 intro i b hb
 unfold bn.nM
 grind
theorem bn.cn {β:bn} {d:Nat} {bi:Bl} {i:Nat} {b:Bl} (h:β.nM d bi i=some b):(i=d∧b=bi)∨(i≠d∧β i=some b):=by
 unfold bn.nM at h
 grind
section
variable {F:Fr} {S:df} {β:bn} {hp:List (Nat×Ob)} {w w':World}
theorem b7.ff (M:b7 F S β hp w) {d:Nat} (h:ae hp d=none):β d=none:=by
 cases hb:β d with
 |none=>rfl
 |some bi=>grind[M.jU]
theorem b7.xA (M:b7 F S β hp w) (hh:w'.heap=w.heap) (h1:w'.os=w.os) (h2:w'.tape=w.tape) (h3:w'.output=w.output):b7 F S β hp w':=by
 have ag:nI S w w':=fun b _=>by grind
 refine b7.pj ⟨M.pM,h1.trans M.os,h2.trans M.eL,h3.trans M.cc,by grind[M.b6],fun b a c=>by grind[M.a6],fun id o h=>(M.dg id o h).bR (fun _ h=>h) (fun _ _ h=>h) ag (fun _ _=>by grind),M.jU,M.fZ,fun i bi h=>by rw [hh];exact M.aX i bi h,fun b h=>by simp_all[M.sub],M.eW,M.dN,M.pL⟩ (fun M0=>M.da.jE (fun _ h=>h) ag M0.fZ (fun id' o' j sz es h1 h2=> ?_) (fun b B _=>⟨by grind,B.ns,by grind[B.lt],B.fr,B.ap⟩))
 obtain ⟨v,⟨o2,bi,q1,q2,q3,q4⟩,_⟩:=M.da.aX id' o' j sz es h1 h2
 exact ⟨id',o',bi,bi,fun h=>h,h1,h2,q2,q2,rfl,cI (by grind) j⟩
theorem cz.Kj {id j sz sz':Nat} {es es':List AV} {v v':Value} (h:cz β hp w id j sz es v) (k:cz β hp w id j sz' es' v'):v=v'∧sz=sz'∧es=es':=by
 obtain ⟨o,bi,a1,a2,a3,a4⟩:=h
 obtain ⟨o',bi',c1,c2,c3,c4⟩:=k
 grind
theorem NK.eA {F:Fr} (H:NK F S β hp w) {id j sz:Nat} {es:List AV} {b n c:Nat} (h:cz β hp w id j sz es (.slice (some ⟨b,0,none⟩) n c)):jT F S β hp w b:=by
 obtain ⟨o,bi,a1,a2,a3,a4⟩:=h
 obtain ⟨v,hO,hv⟩:=H.aX id o j sz es a1 a3
 obtain ⟨e,_⟩:=cz.Kj hO ⟨o,bi,a1,a2,a3,a4⟩
 grind
theorem b7.lO (M:b7 F S β hp w) {S':df} (hS:∀b,S b→S' b) (hnew:∀b,S' b→S b∨w.heap.size≤b) (hsub:∀b,S' b→b<w'.heap.size) (h1:w'.os=w.os) (h2:w'.tape=w.tape) (h3:w'.output=w.output) (hsz:w.heap.size≤w'.heap.size)
  (hk:∀b,b<w.heap.size→w'.heap[b]? =w.heap[b]?):lg S S' β β w w'∧b7 F S' β hp w':=by
 have hag:nI S w w':=fun b hb=>hk b (M.sub b hb)
 have out:∀i bi,β i=some bi→w'.heap[bi.bG]? =w.heap[bi.bG]? :=fun i bi hi=>hk _ (M.aX i bi hi).2.1
 have nS:∀b,b<w.heap.size→¬S b→¬S' b:=fun b hb h hs=>(hnew b hs).elim h (fun g=>absurd hb (Nat.not_lt.2 g))
 refine ⟨⟨hS,fun _ _ h=>h,hag⟩,b7.pj ⟨M.pM,h1.trans M.os,h2.trans M.eL,h3.trans M.cc,Nat.le_trans M.b6 hsz,fun b a c=>(hk b (Nat.lt_of_lt_of_le a M.b6)).trans (M.a6 b a c),fun id o h=>(M.dg id o h).bR hS (fun _ _ h=>h) hag (out id),M.jU,M.fZ,fun i bi hi=> ?_,hsub,fun b h=>hS b (M.eW b h),fun b h=> ?_,M.pL⟩
  (fun M0=>M.da.jE hS hag M0.fZ (fun id' o' j sz es g1 g2=> ?_) (fun b B _=>⟨hk b B.lt,nS b B.lt B.ns,Nat.lt_of_lt_of_le B.lt hsz,B.fr,B.ap⟩))⟩
 ·obtain ⟨p1,p2,p3⟩:=M.aX i bi hi
  grind
 ·grind[M.dN,Nat.le_trans,M.b6]
 ·obtain ⟨v,⟨o2,bi,q1,q2,q3,q4⟩,_⟩:=M.da.aX id' o' j sz es g1 g2
  exact ⟨id',o',bi,bi,fun h=>h,g1,g2,q2,q2,rfl,cI (out id' bi q2) j⟩
theorem b7.hJ {hp':List (Nat×Ob)} (h:∀k,ae hp k=ae hp' k) (M:b7 F S β hp w):b7 F S β hp' w:=by
 refine b7.pj ⟨M.pM,M.os,M.eL,M.cc,M.b6,M.a6,fun id o ho=>M.dg id o (by grind),fun id bi hb=> ?_,fun i j bi bj hi hj h1 h2=>M.fZ i j bi bj hi hj (fun o ho=>h1 o (by grind)) (fun o ho=>h2 o (by grind)),M.aX,M.sub,M.eW,M.dN,M.pL⟩
  (fun M0=>M.da.jE (fun _ h=>h) (nI.bb S w) M0.fZ (fun id' o' j sz es h1 h2=> ?_) (fun b B _=>⟨rfl,B.ns,B.lt,B.fr,fun i bi hi hl=>B.ap i bi hi (fun o ho=>hl o (by grind))⟩))
 ·grind[M.jU,id]
 ·rw [←h] at h1
  obtain ⟨v,⟨o2,bi,q1,q2,q3,q4⟩,_⟩:=M.da.aX id' o' j sz es h1 h2
  grind
theorem b7.yY (M:b7 F S β hp w) {d:Nat} (hd:ae hp d=none) (ob:Obj) (o:Ob) (hno:∀j sz es,o.at j≠some (.aX sz es)) (sz cap:Nat)
  (ho:HO S (β.nM d ⟨w.heap.size,sz,cap⟩) (w.alloc ob) d o):
  lg S S β (β.nM d ⟨w.heap.size,sz,cap⟩) w (w.alloc ob)∧b7 F S (β.nM d ⟨w.heap.size,sz,cap⟩) (ba hp d o) (w.alloc ob):=by
 have hb:=M.ff hd
 have hagr:nI S w (w.alloc ob):=fun b hb=>heap_alloc_old w ob (M.sub b hb)
 refine ⟨⟨fun _ h=>h,bn.dQ hb,hagr⟩,?_⟩
 refine b7.pj ⟨M.pM,M.os,M.eL,M.cc,by have:=M.b6;simp;omega,fun b h1 h2=> ?_,fun id x hx=> ?_,fun id bi hi=> ?_,fun i j bi bj hi hj h1 h2 h3=> ?_,fun i bi hi=> ?_,fun b hb=> ?_,M.eW,M.dN,fun i b h1 h2=>bn.dQ hb i b (M.pL i b h1 h2)⟩ (fun M0=>M.da.jE (fun _ h=>h) hagr M0.fZ (fun id o' j sz es h1 h2=> ?_) (fun b B _=>⟨heap_alloc_old w ob B.lt,B.ns,by simp;grind[B.lt],B.fr,fun i bi hi hl=> ?_⟩))
 ·grind[heap_alloc_old,M.b6,M.a6]
 ·rw [aq] at hx
  by_cases e:d=id
  ·grind
  ·rw [if_neg e] at hx
   exact (M.dg id x hx).bR (fun _ h=>h) (bn.dQ hb) hagr (fun bi hi=>heap_alloc_old w ob (M.aX id bi hi).2.1)
 ·rw [aq]
  by_cases e:d=id
  ·simp_all
  ·rw [if_neg e]
   grind[bn.cn,absurd,M.jU,id]
 ·rcases bn.cn hi with ⟨e1,b1⟩|⟨e1,hi⟩<;>rcases bn.cn hj with ⟨e2,b2⟩|⟨e2,hj⟩
  ·omega
  ·have:=(M.aX j bj hj).2.1;grind
  ·have:=(M.aX i bi hi).2.1;grind
  ·refine M.fZ i j bi bj hi hj (fun x hx=>h1 x ?_) (fun x hx=>h2 x ?_) h3
   all_goals simp_all[aq,if_neg,Ne.symm]
 ·rcases bn.cn hi with ⟨_,e⟩|⟨_,hi⟩
  ·subst e
   refine ⟨fun hs=> ?_,by simp,.inr M.b6⟩
   have:=M.sub _ hs
   grind
  ·obtain ⟨h1,h2,h3⟩:=M.aX i bi hi
   (simp_all;omega)
 ·have:=M.sub b hb;simp;omega
 ·rw [aq] at h1
  by_cases e:d=id
  ·grind
  ·rw [if_neg e] at h1
   obtain ⟨v,⟨o2,bi,q1,q2,q3,q4⟩,_⟩:=M.da.aX id o' j sz es h1 h2
   exact ⟨id,o',bi,bi,fun h=>h,h1,h2,q2,bn.dQ hb _ _ q2,rfl,cI (heap_alloc_old w ob (M.aX id bi q2).2.1) j⟩
 ·rcases bn.cn hi with ⟨_,e⟩|⟨e,hi⟩
  ·subst e;have:=B.lt;grind
  ·exact B.ap i bi hi (fun o' ho'=>hl o' (by simp_all[aq,if_neg,Ne.symm]))
theorem b7.lay (M:b7 F S β hp w) (ob:Obj):lg S (fun b=>S b∨b=w.heap.size) β β w (w.alloc ob)∧b7 F (fun b=>S b∨b=w.heap.size) β hp (w.alloc ob):=by
 have hagr:nI S w (w.alloc ob):=fun b hb=>heap_alloc_old w ob (M.sub b hb)
 refine ⟨⟨fun _ h=> .inl h,fun _ _ h=>h,hagr⟩,?_⟩
 refine b7.pj ⟨M.pM,M.os,M.eL,M.cc,by have:=M.b6;simp;omega,fun b h1 h2=> ?_,fun id x hx=> ?_,M.jU,M.fZ,fun i bi hi=> ?_,fun b hb=> ?_,fun b hb=> .inl (M.eW b hb),fun b hb=> ?_,M.pL⟩ (fun M0=>M.da.jE (fun _ h=> .inl h) hagr M0.fZ (fun id o' j sz es h1 h2=> ?_) (fun b B _=>⟨heap_alloc_old w ob B.lt,?_,by simp;grind[B.lt],B.fr,B.ap⟩))
 ·grind[heap_alloc_old,M.b6,M.a6]
 ·exact (M.dg id x hx).bR (fun _ h=> .inl h) (fun _ _ h=>h) hagr (fun bi hi=>heap_alloc_old w ob (M.aX id bi hi).2.1)
 ·obtain ⟨h1,h2,h3⟩:=M.aX i bi hi
  (simp_all;omega)
 ·rcases hb with hb|rfl
  ·have:=M.sub b hb;simp;omega
  simp
 ·rcases hb with hb|rfl
  all_goals grind[M.dN,M.b6]
 ·obtain ⟨v,⟨o2,bi,q1,q2,q3,q4⟩,_⟩:=M.da.aX id o' j sz es h1 h2
  exact ⟨id,o',bi,bi,fun h=>h,h1,h2,q2,q2,rfl,cI (heap_alloc_old w ob (M.aX id bi q2).2.1) j⟩
 ·rintro (h|h)
  ·exact B.ns h
  ·have:=B.lt;omega
theorem b7.N4 (M:b7 F S β hp w) (ob:Obj):b7 F S β hp (w.alloc ob):=by
 have hagr:nI S w (w.alloc ob):=fun b hb=>heap_alloc_old w ob (M.sub b hb)
 refine b7.pj ⟨M.pM,M.os,M.eL,M.cc,by have:=M.b6;simp;omega,fun b h1 h2=> ?_,fun id x hx=> ?_,M.jU,M.fZ,fun i bi hi=> ?_,fun b hb=> ?_,M.eW,M.dN,M.pL⟩ (fun M0=>M.da.jE (fun _ h=>h) hagr M0.fZ (fun id o' j sz es h1 h2=> ?_) (fun b B _=>⟨heap_alloc_old w ob B.lt,B.ns,by simp;grind[B.lt],B.fr,B.ap⟩))
 ·grind[heap_alloc_old,M.b6,M.a6]
 ·exact (M.dg id x hx).bR (fun _ h=>h) (fun _ _ h=>h) hagr (fun bi hi=>heap_alloc_old w _ (M.aX id bi hi).2.1)
 ·obtain ⟨h1,h2,h3⟩:=M.aX i bi hi;(simp_all;omega)
 ·have:=M.sub b hb;simp;omega
 ·obtain ⟨v,⟨o2,bi,q1,q2,q3,q4⟩,_⟩:=M.da.aX id o' j sz es h1 h2
  exact ⟨id,o',bi,bi,fun h=>h,h1,h2,q2,q2,rfl,cI (heap_alloc_old w ob (M.aX id bi q2).2.1) j⟩
theorem cT {b:Nat} {es:Array MapEntry} {cl:Nat} (h:w.heap[b]? =some (.map es cl)) (j:Nat):e8 w b j=es[j]?.map (·.val):=by grind[e8]
structure mK (bi:Bl) (w w':World):Prop where
 os:w'.os=w.os
 eL:w'.tape=w.tape
 cc:w'.output=w.output
 b6:w.heap.size≤w'.heap.size
 gD:∀b,b<w.heap.size→b≠bi.bG→w'.heap[b]? =w.heap[b]?
theorem b7.cR (M:b7 F S β hp w) {id:Nat} {bi:Bl} {x:Ob} (hi:β id=some bi) (hx:ae hp id=some x) (hd:x≠ .aB) (T:mK bi w w') (o:Ob) (ho:HO S β w' id o)
  (hown:∀j sz es,o.at j=some (.aX sz es)→x.at j=some (.aX sz es)∧e8 w' bi.bG j=e8 w bi.bG j):
  lg S S β β w w'∧b7 F S β (ba hp id o) w':=by
 have hagr:nI S w w':=fun b hb=>T.gD b (M.sub b hb) (fun e=>(M.aX id bi hi).1 (e▸hb))
 have hlive:∀y,ae hp id=some y→y≠ .aB:=fun y hy=>by grind
 refine ⟨⟨fun _ h=>h,fun _ _ h=>h,hagr⟩,?_⟩
 refine b7.pj ⟨M.pM,T.os.trans M.os,T.eL.trans M.eL,T.cc.trans M.cc,Nat.le_trans M.b6 T.b6,fun b h1 h2=> ?_,fun j y hy=> ?_,fun j bj hj=> ?_,fun i j b1 b2 h1 h2 h3 h4 h5=> ?_,fun i b1 h1=> ?_,fun b hb=>Nat.lt_of_lt_of_le (M.sub b hb) T.b6,M.eW,M.dN,M.pL⟩ (fun M0=>M.da.jE (fun _ h=>h) hagr M0.fZ (fun id' o' j sz es h1 h2=> ?_) (fun b B _=>⟨T.gD b B.lt (fun e=>B.ap id bi hi hlive e.symm),B.ns,Nat.lt_of_lt_of_le B.lt T.b6,B.fr,fun i bi hi hl=>B.ap i bi hi (fun y hy=> ?_)⟩))
 ·rw [T.gD b (Nat.lt_of_lt_of_le h1 M.b6) (fun e=> ?_)];exact M.a6 b h1 h2
  rcases (M.aX id bi hi).2.2 with ⟨_,h⟩|h
  all_goals grind
 ·rw [aq] at hy
  by_cases e:id=j
  ·grind
  ·rw [if_neg e] at hy
   by_cases hdy:y= .aB
   ·subst hdy;exact M.dg j _ hy
   ·refine (M.dg j y hy).bR (fun _ h=>h) (fun _ _ h=>h) hagr (fun bj hj=>T.gD _ (M.aX j bj hj).2.1 (fun e2=>e ?_))
    grind[M.fZ,id]
 ·rw [aq]
  by_cases e:id=j
  all_goals simp_all[if_pos,if_neg,M.jU]
 ·have go:∀k,(∀y,ae (ba hp id o) k=some y→y≠ .aB)→∀y,ae hp k=some y→y≠ .aB:=by
   intro k h y hy
   by_cases e:id=k
   all_goals simp_all[aq,if_neg]
  grind[M.fZ]
 ·obtain ⟨a,b,c⟩:=M.aX i b1 h1;grind[Nat.lt_of_lt_of_le,T.b6]
 ·rw [aq] at h1
  by_cases e:id=id'
  ·grind
  ·rw [if_neg e] at h1
   obtain ⟨v,⟨o2,bj,q1,q2,q3,q4⟩,_⟩:=M.da.aX id' o' j sz es h1 h2
   refine ⟨id',o',bj,bj,fun h=>h,h1,h2,q2,q2,rfl,cI (T.gD _ (M.aX id' bj q2).2.1 (fun e2=>e ?_)) j⟩
   grind[M.fZ,id,Ob.d8]
 ·by_cases e:id=i
  all_goals simp_all[aq,if_neg]
theorem b7.IX (M:b7 F S β hp w) {id d:Nat} {bi bj:Bl} {x:Ob} (hid:id<mid∨mid≤d) (hi:β id=some bi) (hx:ae hp id=some x) (hd:x≠ .aB) (hn:ae hp d=none) (hblk:bj.bG=bi.bG) (T:mK bi w w') (o:Ob)
  (ho:HO S (β.nM d bj) w' d o) (hno:∀j sz es,o.at j≠some (.aX sz es)):
  lg S S β (β.nM d bj) w w'∧b7 F S (β.nM d bj) (ba (ba hp id .aB) d o) w':=by
 have hb:=M.ff hn
 have hne:id≠d:=by grind
 have hagr:nI S w w':=fun b hb=>T.gD b (M.sub b hb) (fun e=>(M.aX id bi hi).1 (e▸hb))
 have hlive:∀y,ae hp id=some y→y≠ .aB:=fun y hy=>by grind
 refine ⟨⟨fun _ h=>h,bn.dQ hb,hagr⟩,?_⟩
 refine b7.pj ⟨M.pM,T.os.trans M.os,T.eL.trans M.eL,T.cc.trans M.cc,Nat.le_trans M.b6 T.b6,fun b h1 h2=> ?_,fun j y hy=> ?_,fun j bk hj=> ?_,fun i j b1 b2 h1 h2 h3 h4 h5=> ?_,fun i b1 h1=> ?_,fun b hb=>Nat.lt_of_lt_of_le (M.sub b hb) T.b6,M.eW,M.dN,fun i b h1 h2=>bn.dQ hb i b (M.pL i b h1 h2)⟩ (fun M0=>M.da.jE (fun _ h=>h) hagr M0.fZ (fun id' o' j sz es h1 h2=> ?_) (fun b B _=>⟨T.gD b B.lt (fun e=>B.ap id bi hi hlive e.symm),B.ns,Nat.lt_of_lt_of_le B.lt T.b6,B.fr,fun i b1 hi1 hl=> ?_⟩))
 ·rw [T.gD b (Nat.lt_of_lt_of_le h1 M.b6) (fun e=> ?_)];exact M.a6 b h1 h2
  rcases (M.aX id bi hi).2.2 with ⟨_,h⟩|h
  all_goals grind
 ·rw [aq] at hy
  by_cases e:d=j
  ·grind
  ·rw [if_neg e,aq] at hy
   by_cases e2:id=j
   ·subst e2;rw [if_pos rfl] at hy;injection hy with hy;subst hy;exact trivial
   ·rw [if_neg e2] at hy
    by_cases hdy:y= .aB
    ·subst hdy;exact trivial
    ·refine (M.dg j y hy).bR (fun _ h=>h) (bn.dQ hb) hagr (fun bj hj=>T.gD _ (M.aX j bj hj).2.1 (fun e3=>e2 ?_))
     grind[M.fZ,id]
 ·rw [aq]
  by_cases e:d=j
  ·grind
  ·rw [if_neg e,aq]
   rcases bn.cn hj with ⟨e',_⟩|⟨_,hj⟩
   ·omega
   ·by_cases e2:id=j
    all_goals simp_all[if_pos,if_neg,M.jU]
 ·have dead:∀k,k≠d→(∀y,ae (ba (ba hp id .aB) d o) k=some y→y≠ .aB)→k≠id:=by
   intro k hk h e
   subst e
   exact h .aB (by rw [aq,if_neg (Ne.symm hk),aq,if_pos rfl]) rfl
  have go:∀k,k≠d→(∀y,ae (ba (ba hp id .aB) d o) k=some y→y≠ .aB)→∀y,ae hp k=some y→y≠ .aB:=by
   intro k hk h y hy
   exact h y (by rw [aq,if_neg (Ne.symm hk),aq,if_neg (Ne.symm (dead k hk h))];omega)
  grind[bn.cn,absurd,M.fZ,id]
 ·rcases bn.cn h1 with ⟨ei,e⟩|⟨_,h1⟩
  ·subst e
   obtain ⟨a,b,c⟩:=M.aX id bi hi
   grind[Nat.lt_of_lt_of_le,T.b6,da,absurd,Nat.not_le]
  ·obtain ⟨a,b,c⟩:=M.aX i b1 h1;grind[Nat.lt_of_lt_of_le,T.b6]
 ·rw [aq] at h1
  by_cases e:d=id'
  ·grind
  ·rw [if_neg e,aq] at h1
   by_cases e2:id=id'
   ·subst e2;rw [if_pos rfl] at h1;injection h1 with h1;subst h1;cases h2
   ·rw [if_neg e2] at h1
    obtain ⟨v,⟨o2,bk,q1,q2,q3,q4⟩,_⟩:=M.da.aX id' o' j sz es h1 h2
    refine ⟨id',o',bk,bk,fun h=>h,h1,h2,q2,bn.dQ hb _ _ q2,rfl,cI (T.gD _ (M.aX id' bk q2).2.1 (fun e3=>e2 ?_)) j⟩
    grind[M.fZ,id,Ob.d8]
 ·rcases bn.cn hi1 with ⟨_,e⟩|⟨e,hi1⟩
  ·subst e;rw [hblk];exact B.ap id bi hi hlive
  ·by_cases e2:id=i
   ·subst e2;rw [hi] at hi1;injection hi1 with hi1;subst hi1;exact B.ap id bi hi hlive
   ·exact B.ap i b1 hi1 (fun y hy=>hl y (by simp_all[aq,if_neg,Ne.symm]))
theorem b7.Fe (M:b7 F S β hp w) {id:Nat} (hx:∃x,ae hp id=some x):b7 F S β (ba hp id .aB) w:=by
 obtain ⟨x,hx⟩:=hx
 refine b7.pj ⟨M.pM,M.os,M.eL,M.cc,M.b6,M.a6,fun j y hy=> ?_,fun j bj hj=> ?_,fun i j b1 b2 h1 h2 h3 h4 h5=> ?_,M.aX,M.sub,M.eW,M.dN,M.pL⟩ (fun M0=>M.da.jE (fun _ h=>h) (nI.bb S w) M0.fZ (fun id' o' j sz es h1 h2=> ?_) (fun b B _=>⟨rfl,B.ns,B.lt,B.fr,fun i bi hi hl=>B.ap i bi hi (fun y hy=> ?_)⟩))
 ·rw [aq] at hy
  by_cases e:id=j
  ·subst e;rw [if_pos rfl] at hy;injection hy with hy;subst hy;exact trivial
  simp_all[if_neg,M.dg]
 ·rw [aq]
  by_cases e:id=j
  all_goals simp_all[if_pos,if_neg,M.jU]
 ·have go:∀k,(∀y,ae (ba hp id .aB) k=some y→y≠ .aB)→∀y,ae hp k=some y→y≠ .aB:=by
   intro k h y hy
   by_cases e:id=k
   ·subst e;exact absurd rfl (h .aB (by rw [aq,if_pos rfl]))
   simp_all[aq,if_neg]
  grind[M.fZ]
 ·rw [aq] at h1
  by_cases e:id=id'
  ·subst e;rw [if_pos rfl] at h1;injection h1 with h1;subst h1;cases h2
  ·rw [if_neg e] at h1
   obtain ⟨v,⟨o2,bj,q1,q2,q3,q4⟩,_⟩:=M.da.aX id' o' j sz es h1 h2
   grind
 ·by_cases e:id=i
  ·subst e;exact absurd rfl (hl .aB (by rw [aq,if_pos rfl]))
  simp_all[aq,if_neg]
theorem b7.nN (M:b7 F S β hp w) {id:Nat} {x o:Ob} (hx:ae hp id=some x) (hd:x≠ .aB) (ho:HO S β w id o) (hno:∀j sz es,o.at j≠some (.aX sz es)):b7 F S β (ba hp id o) w:=by
 refine b7.pj ⟨M.pM,M.os,M.eL,M.cc,M.b6,M.a6,fun j y hy=> ?_,fun j bj hj=> ?_,fun i j b1 b2 h1 h2 h3 h4 h5=> ?_,M.aX,M.sub,M.eW,M.dN,M.pL⟩ (fun M0=>M.da.jE (fun _ h=>h) (nI.bb S w) M0.fZ (fun id' o' j sz es h1 h2=> ?_) (fun b B _=>⟨rfl,B.ns,B.lt,B.fr,fun i bi hi hl=>B.ap i bi hi (fun y hy=> ?_)⟩))
 ·rw [aq] at hy
  by_cases e:id=j
  ·grind
  simp_all[if_neg,M.dg]
 ·rw [aq]
  by_cases e:id=j
  all_goals simp_all[if_pos,if_neg,M.jU]
 ·have go:∀k,(∀y,ae (ba hp id o) k=some y→y≠ .aB)→∀y,ae hp k=some y→y≠ .aB:=by
   intro k h y hy
   by_cases e:id=k
   all_goals simp_all[aq,if_neg]
  grind[M.fZ]
 ·rw [aq] at h1
  by_cases e:id=id'
  ·grind
  ·rw [if_neg e] at h1
   obtain ⟨v,⟨o2,bj,q1,q2,q3,q4⟩,_⟩:=M.da.aX id' o' j sz es h1 h2
   grind
 ·by_cases e:id=i
  all_goals simp_all[aq,if_neg]
theorem b7.Cc (M:b7 F S β hp w) {id:Nat} {o:Ob} (hx:ae hp id=none) (ho:HO S β w id o) (hno:∀j sz es,o.at j≠some (.aX sz es)):b7 F S β (ba hp id o) w:=by
 refine b7.pj ⟨M.pM,M.os,M.eL,M.cc,M.b6,M.a6,fun j y hy=> ?_,fun j bj hj=> ?_,fun i j b1 b2 h1 h2 h3 h4 h5=> ?_,M.aX,M.sub,M.eW,M.dN,M.pL⟩ (fun M0=>M.da.jE (fun _ h=>h) (nI.bb S w) M0.fZ (fun id' o' j sz es h1 h2=> ?_) (fun b B _=>⟨rfl,B.ns,B.lt,B.fr,fun i bi hi hl=>B.ap i bi hi (fun y hy=> ?_)⟩))
 ·rw [aq] at hy
  by_cases e:id=j
  ·grind
  simp_all[if_neg,M.dg]
 ·rw [aq]
  by_cases e:id=j
  all_goals simp_all[if_pos,if_neg,M.jU]
 ·have go:∀k,(∀y,ae (ba hp id o) k=some y→y≠ .aB)→∀y,ae hp k=some y→y≠ .aB:=by
   intro k h y hy
   by_cases e:id=k
   all_goals simp_all[aq,if_neg]
  grind[M.fZ]
 ·rw [aq] at h1
  by_cases e:id=id'
  ·grind
  ·rw [if_neg e] at h1
   obtain ⟨v,⟨o2,bj,q1,q2,q3,q4⟩,_⟩:=M.da.aX id' o' j sz es h1 h2
   grind
 ·by_cases e:id=i
  all_goals simp_all[aq,if_neg]
end
end
end Go.Ped
