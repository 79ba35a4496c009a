/-
  The engine, part 1: values without addresses (trees of what can only be read; numbered pieces of memory of the call's own), what it means that a value of the machine stands for one, and that a world stands for numbered pieces. Plain definitions; no program in sight.
-/
import Derived.WalkKit
import Derived.LoopN
import Derived.MapKept
import Derived.Lib.ItoaNum
set_option linter.unusedVariables false
namespace Go.Ped
open Go.RowKit

/-- A set of blocks. -/
abbrev Blk := Nat → Prop

/-- Values without addresses. -/
inductive AV where
  | int (k : IntKind) (n : Int)
  | bool (b : Bool)
  | str (s : ByteArray)
  | agg (cs : List AV)
  | tup (vs : List AV)
  | seq (es : List AV) (clip : Bool)
  | nils
  | row (id off len : Nat)
  | tptr (cs : List AV)
  | elt (id k off : Nat)
  | nilp
  | map (id : Nat)
  | tmap (ks vs : List AV)
  | nilmap
  | clo (f : FuncId) (first cap : List AV)
  | nilf
  | iface (t : TypeId) (v : AV)
  | nili
  | dead

instance : Inhabited AV := ⟨.dead⟩

/-- The cells of a variable that holds it. -/
def AV.cells : AV → List AV
  | .agg cs => cs
  | v => [v]

/-- A piece of memory of the call's own: its block, the cells of an element, how many elements there is room for. -/
structure Bl where
  blk : Nat
  sz : Nat
  cap : Nat

abbrev Beta := Nat → Option Bl

/-- No pieces. -/
def noB : Beta := fun _ => none

/-- A value stands for a value without addresses: what is read lies in the blocks S (and nothing of the call's own lies in it); what is the call's own lies where β says. -/
inductive V (S : Blk) : Beta → World → Value → AV → Prop where
  | int {β : Beta} {w : World} (k : IntKind) (n : Int) : V S β w (.int k n) (.int k n)
  | bool {β : Beta} {w : World} (b : Bool) : V S β w (.bool b) (.bool b)
  | str {β : Beta} {w : World} (s : ByteArray) : V S β w (.string s) (.str s)
  | agg {β : Beta} {w : World} (vs : List Value) (cs : List AV) (hl : vs.length = cs.length) (h : ∀ (i : Nat) v c, vs[i]? = some v → cs[i]? = some c → V S β w v c) : V S β w (.agg vs.toArray) (.agg cs)
  | tup {β : Beta} {w : World} (vs : List Value) (cs : List AV) (hl : vs.length = cs.length) (h : ∀ (i : Nat) v c, vs[i]? = some v → cs[i]? = some c → V S β w v c) : V S β w (.tuple vs.toArray) (.tup cs)
  | seq {β : Beta} {w : World} (p : Option Addr) (cap sz b o : Nat) (es : List AV) (clip : Bool) (U : Nat → Nat → Value) (hcap : es.length ≤ cap) (hmax : cap ≤ maxLen) (hclip : clip = true → cap = es.length)
      (hp : es ≠ [] → p = some ⟨b, o, none⟩ ∧ S b) (hsz : ∀ (i : Nat) (e : AV), es[i]? = some e → e.cells.length = sz)
      (hc : ∀ (i j : Nat) (e c : AV), es[i]? = some e → e.cells[j]? = some c → w.cell? ⟨b, o + i * sz + j, none⟩ = some (U i j))
      (hv : ∀ (i j : Nat) (e c : AV), es[i]? = some e → e.cells[j]? = some c → V S noB w (U i j) c) : V S β w (.slice p es.length cap) (.seq es clip)
  | row {β : Beta} {w : World} (id off len : Nat) (a : Addr) (bi : Bl) (hb : β id = some bi) (hle : off + len ≤ bi.cap) (ha : off < bi.cap → a = ⟨bi.blk, off * bi.sz, none⟩) : V S β w (.slice (some a) len (bi.cap - off)) (.row id off len)
  | tptr {β : Beta} {w : World} (b o : Nat) (cs : List AV) (U : Nat → Value) (hS : S b) (hc : ∀ (j : Nat) (c : AV), cs[j]? = some c → w.cell? ⟨b, o + j, none⟩ = some (U j))
      (hv : ∀ (j : Nat) (c : AV), cs[j]? = some c → V S noB w (U j) c) : V S β w (.pointer (some ⟨b, o, none⟩)) (.tptr cs)
  | elt {β : Beta} {w : World} (id k off : Nat) (bi : Bl) (hb : β id = some bi) : V S β w (.pointer (some ⟨bi.blk, k * bi.sz + off, none⟩)) (.elt id k off)
  | nilp {β : Beta} {w : World} : V S β w (.pointer none) .nilp
  | map {β : Beta} {w : World} (id : Nat) (bi : Bl) (hb : β id = some bi) : V S β w (.map (some bi.blk)) (.map id)
  | tmap {β : Beta} {w : World} (r : Nat) (es : Array MapEntry) (cl : Nat) (ks vs : List AV) (hS : S r) (hr : w.heap[r]? = some (.map es cl)) (hk : ks.length = es.size) (hl : vs.length = es.size)
      (hkv : ∀ (i : Nat) e k, es[i]? = some e → ks[i]? = some k → V S noB w e.key k) (hvv : ∀ (i : Nat) e v, es[i]? = some e → vs[i]? = some v → V S noB w e.val v) : V S β w (.map (some r)) (.tmap ks vs)
  | nilmap {β : Beta} {w : World} : V S β w (.map none) .nilmap
  | nils {β : Beta} {w : World} : V S β w (.slice none 0 0) .nils
  | clo {β : Beta} {w : World} (f : FuncId) (fs gs : List Value) (first cap : List AV) (hf : fs.length = first.length) (hg : gs.length = cap.length)
      (hfv : ∀ (i : Nat) v c, fs[i]? = some v → first[i]? = some c → V S β w v c) (hgv : ∀ (i : Nat) v c, gs[i]? = some v → cap[i]? = some c → V S β w v c) : V S β w (.func (.func f) fs.toArray gs.toArray) (.clo f first cap)
  | nilf {β : Beta} {w : World} : V S β w .nilFunc .nilf
  | iface {β : Beta} {w : World} (t : TypeId) (v : Value) (x : AV) (h : V S β w v x) : V S β w (.iface t v) (.iface t x)
  | nili {β : Beta} {w : World} : V S β w .nilIface .nili
  | dead {β : Beta} {w : World} (v : Value) : V S β w v .dead

/-- The worlds hold the same in these blocks. -/
def Agr (S : Blk) (w w' : World) : Prop := ∀ b, S b → w'.heap[b]? = w.heap[b]?

theorem Agr.refl (S : Blk) (w : World) : Agr S w w := fun _ _ => rfl
theorem Agr.trans {S : Blk} {a b c : World} (h : Agr S a b) (k : Agr S b c) : Agr S a c := fun i hi => (k i hi).trans (h i hi)
theorem Agr.less {S T : Blk} {a b : World} (h : Agr T a b) (hs : ∀ i, S i → T i) : Agr S a b := fun i hi => h i (hs i hi)
theorem Agr.cell {S : Blk} {w w' : World} (h : Agr S w w') {b o : Nat} (hb : S b) : w'.cell? ⟨b, o, none⟩ = w.cell? ⟨b, o, none⟩ :=
  World.cell?_of_block (w := w) (h b hb)

/-- More blocks to read, more pieces, a later world that holds the same in the blocks: what stood for it stands for it. -/
theorem V.mono {S S' : Blk} {β β' : Beta} {w w' : World} (hS : ∀ b, S b → S' b) (hβ : ∀ i b, β i = some b → β' i = some b) (ha : Agr S w w') {v : Value} {x : AV} (h : V S β w v x) : V S' β' w' v x := by
  induction h generalizing β' with
  | int k n => exact .int k n
  | bool b => exact .bool b
  | str s => exact .str s
  | agg vs cs hl h ih => exact .agg vs cs hl fun i v c h1 h2 => ih i v c h1 h2 hβ ha
  | tup vs cs hl h ih => exact .tup vs cs hl fun i v c h1 h2 => ih i v c h1 h2 hβ ha
  | seq p cap sz b o es clip U hcap hmax hclip hp hsz hc hv ih =>
    refine .seq p cap sz b o es clip U hcap hmax hclip (fun hne => ⟨(hp hne).1, hS _ (hp hne).2⟩) hsz (fun i j e c h1 h2 => ?_) (fun i j e c h1 h2 => ih i j e c h1 h2 (fun _ _ h => h) ha)
    have hne : es ≠ [] := by rintro rfl; simp at h1
    exact (ha.cell (hp hne).2).trans (hc i j e c h1 h2)
  | row id off len a bi hb hle ha' => exact .row id off len a bi (hβ _ _ hb) hle ha'
  | tptr b o cs U hb hc hv ih => exact .tptr b o cs U (hS _ hb) (fun j c h => (ha.cell hb).trans (hc j c h)) (fun j c h => ih j c h (fun _ _ h => h) ha)
  | elt id k off bi hb => exact .elt id k off bi (hβ _ _ hb)
  | nilp => exact .nilp
  | map id bi hb => exact .map id bi (hβ _ _ hb)
  | tmap r es cl ks vs hb hr hk hl hkv hvv ih1 ih2 => exact .tmap r es cl ks vs (hS _ hb) ((ha r hb).trans hr) hk hl (fun i e k h1 h2 => ih1 i e k h1 h2 (fun _ _ h => h) ha) (fun i e k h1 h2 => ih2 i e k h1 h2 (fun _ _ h => h) ha)
  | nilmap => exact .nilmap
  | nils => exact .nils
  | clo f fs gs first cap hf hg hfv hgv ih1 ih2 => exact .clo f fs gs first cap hf hg (fun i v c h1 h2 => ih1 i v c h1 h2 hβ ha) (fun i v c h1 h2 => ih2 i v c h1 h2 hβ ha)
  | nilf => exact .nilf
  | iface t v x h ih => exact .iface t v x (ih hβ ha)
  | nili => exact .nili
  | dead v => exact .dead v

/-- What is only read stands so under any pieces. -/
theorem V.up {S : Blk} {β : Beta} {w : World} {v : Value} {x : AV} (h : V S noB w v x) : V S β w v x := h.mono (fun _ h => h) (fun _ _ h => by cases h) (Agr.refl S w)

/-- What stands for something of one cell, or of several: its cells, one by one. -/
theorem V.cells {S : Blk} {β : Beta} {w : World} {v : Value} {x : AV} (h : V S β w v x) (hx : x ≠ .dead) :
    v.cells.size = x.cells.length ∧ ∀ (j : Nat) c, x.cells[j]? = some c → ∃ u, v.cells[j]? = some u ∧ V S β w u c := by
  have one : ∀ {v : Value} {x : AV}, V S β w v x → v.cells = #[v] → x.cells = [x] → v.cells.size = x.cells.length ∧ ∀ (j : Nat) c, x.cells[j]? = some c → ∃ u, v.cells[j]? = some u ∧ V S β w u c := by
    intro v x h e1 e2
    rw [e1, e2]
    refine ⟨rfl, fun j c hj => ?_⟩
    cases j with
    | zero => simp at hj; subst hj; exact ⟨v, by simp, h⟩
    | succ j => simp at hj
  cases h with
  | agg vs cs hl h =>
    refine ⟨by simpa [Value.cells, AV.cells] using hl, fun j c hj => ?_⟩
    simp only [AV.cells] at hj
    have hlt : j < cs.length := (List.getElem?_eq_some_iff.1 hj).1
    have hv : vs[j]? = some (vs[j]'(by omega)) := List.getElem?_eq_getElem (by omega)
    exact ⟨vs[j]'(by omega), by simp [Value.cells, hv], h j _ c hv hj⟩
  | dead v => exact absurd rfl hx
  | int k n => exact one (.int k n) rfl rfl
  | bool b => exact one (.bool b) rfl rfl
  | str s => exact one (.str s) rfl rfl
  | tup vs cs hl h => exact one (.tup vs cs hl h) rfl rfl
  | seq p cap sz b o es clip U hcap hmax hclip hp hsz hc hv => exact one (.seq p cap sz b o es clip U hcap hmax hclip hp hsz hc hv) rfl rfl
  | row id off len a bi hb hle ha => exact one (.row id off len a bi hb hle ha) rfl rfl
  | tptr b o cs U hb hc hv => exact one (.tptr b o cs U hb hc hv) rfl rfl
  | elt id k off bi hb => exact one (.elt id k off bi hb) rfl rfl
  | nilp => exact one .nilp rfl rfl
  | map id bi hb => exact one (.map id bi hb) rfl rfl
  | tmap r es cl ks vs hb hr hk hl hkv hvv => exact one (.tmap r es cl ks vs hb hr hk hl hkv hvv) rfl rfl
  | nilmap => exact one .nilmap rfl rfl
  | nils => exact one .nils rfl rfl
  | clo f fs gs first cap hf hg hfv hgv => exact one (.clo f fs gs first cap hf hg hfv hgv) rfl rfl
  | nilf => exact one .nilf rfl rfl
  | iface t v x h => exact one (.iface t v x h) rfl rfl
  | nili => exact one .nili rfl rfl

/-! ### Finite tables -/

def look {α : Type} (l : List (Nat × α)) (k : Nat) : Option α :=
  match l with
  | [] => none
  | (i, x) :: r => if i = k then some x else look r k

def putL {α : Type} (l : List (Nat × α)) (k : Nat) (x : α) : List (Nat × α) :=
  match l with
  | [] => [(k, x)]
  | (i, y) :: r => if i = k then (k, x) :: r else (i, y) :: putL r k x

theorem look_put {α : Type} (l : List (Nat × α)) (k j : Nat) (x : α) : look (putL l k x) j = if k = j then some x else look l j := by
  induction l with
  | nil => simp [putL, look]
  | cons h r ih =>
    obtain ⟨i, y⟩ := h
    unfold putL
    by_cases hik : i = k
    · subst hik
      rw [if_pos rfl]
      simp only [look]
      by_cases hj : i = j <;> simp [hj]
    · rw [if_neg hik]
      simp only [look, ih]
      by_cases hj : i = j
      · subst hj; simp [Ne.symm hik]
      · simp [hj]

/-- Pieces of memory of the call's own. -/
inductive Ob where
  | var (cs : List AV)
  | row (sz : Nat) (es : List AV)
  | map (ks vs : List AV)
  | dead

/-- A block that holds elements, one behind the other. -/
def HR (S : Blk) (β : Beta) (w : World) (bi : Bl) (es : List AV) : Prop :=
  ∃ cur t, w.heap[bi.blk]? = some (.cells cur t (0, 0)) ∧ cur.size = bi.cap * bi.sz ∧ es.length ≤ bi.cap ∧ bi.cap ≤ maxLen ∧ (∀ (i : Nat) (e : AV), es[i]? = some e → e.cells.length = bi.sz) ∧
    ∀ (i j : Nat) (e c : AV), es[i]? = some e → e.cells[j]? = some c → ∃ u, cur[i * bi.sz + j]? = some u ∧ V S β w u c

/-- A text. -/
def txt : AV → Bool
  | .str _ => true
  | _ => false

/-- A numbered piece stands where β says. (A map whose keys are texts: its entries are stamped as the machine stamps them.) -/
def HO (S : Blk) (β : Beta) (w : World) (id : Nat) : Ob → Prop
  | .var cs => ∃ bi, β id = some bi ∧ bi.cap = 1 ∧ HR S β w bi [.agg cs]
  | .row sz es => ∃ bi, β id = some bi ∧ bi.sz = sz ∧ HR S β w bi es
  | .map ks vs => ∃ bi es cl, β id = some bi ∧ w.heap[bi.blk]? = some (.map es cl) ∧ ks.length = es.size ∧ vs.length = es.size ∧
      (∀ (i : Nat) e k, es[i]? = some e → ks[i]? = some k → V S β w e.key k) ∧ (∀ (i : Nat) e v, es[i]? = some e → vs[i]? = some v → V S β w e.val v) ∧ (ks.all txt = true → MapKept.Stamped es cl)
  | .dead => ∃ bi, β id = some bi

theorem HR.mono {S S' : Blk} {β β' : Beta} {w w' : World} (hS : ∀ b, S b → S' b) (hβ : ∀ i b, β i = some b → β' i = some b) (ha : Agr S w w') {bi : Bl} {es : List AV} (hb : w'.heap[bi.blk]? = w.heap[bi.blk]?)
    (h : HR S β w bi es) : HR S' β' w' bi es := by
  obtain ⟨cur, t, h1, h2, h3, h4, h5, h6⟩ := h
  refine ⟨cur, t, hb.trans h1, h2, h3, h4, h5, fun i j e c he hc => ?_⟩
  obtain ⟨u, hu, hv⟩ := h6 i j e c he hc
  exact ⟨u, hu, hv.mono hS hβ ha⟩

theorem HO.mono {S S' : Blk} {β β' : Beta} {w w' : World} (hS : ∀ b, S b → S' b) (hβ : ∀ i b, β i = some b → β' i = some b) (ha : Agr S w w') {id : Nat} {o : Ob}
    (hb : ∀ bi, β id = some bi → w'.heap[bi.blk]? = w.heap[bi.blk]?) (h : HO S β w id o) : HO S' β' w' id o := by
  cases o with
  | var cs => obtain ⟨bi, h1, h2, h3⟩ := h; exact ⟨bi, hβ _ _ h1, h2, h3.mono hS hβ ha (hb bi h1)⟩
  | row sz es => obtain ⟨bi, h1, h2, h3⟩ := h; exact ⟨bi, hβ _ _ h1, h2, h3.mono hS hβ ha (hb bi h1)⟩
  | map ks vs =>
    obtain ⟨bi, es, cl, h1, h2, h3, h4, h5, h6, h7⟩ := h
    exact ⟨bi, es, cl, hβ _ _ h1, (hb bi h1).trans h2, h3, h4, fun i e k a b => (h5 i e k a b).mono hS hβ ha, fun i e v a b => (h6 i e v a b).mono hS hβ ha, h7⟩
  | dead => obtain ⟨bi, h1⟩ := h; exact ⟨bi, hβ _ _ h1⟩

/-- What a call is told: the world in which it began, the blocks that it may read, those pieces of its caller's that it may write. -/
structure Fr where
  w0 : World
  S0 : Blk
  M : Blk
  β0 : Beta

/-- From this number on: pieces of the caller's. -/
abbrev given : Nat := 100000

/-- The package's table of powers of ten lies in block 0. -/
def Tabs (w : World) : Prop := ∃ t fz, w.heap[0]? = some (.cells ((Lib.pow10Tab.map fun z => Value.int .u64 z).toArray) t fz)

/-- The memory stands for the numbered pieces. -/
structure Mem (F : Fr) (S : Blk) (β : Beta) (hp : List (Nat × Ob)) (w : World) : Prop where
  tab : Tabs F.w0 ∧ ¬ F.M 0
  os : w.os = F.w0.os
  tape : w.tape = F.w0.tape
  output : w.output = F.w0.output
  size : F.w0.heap.size ≤ w.heap.size
  keep : ∀ b, b < F.w0.heap.size → ¬ F.M b → w.heap[b]? = F.w0.heap[b]?
  obs : ∀ id o, look hp id = some o → HO S β w id o
  dom : ∀ id bi, β id = some bi → ∃ o, look hp id = some o
  inj : ∀ i j bi bj, β i = some bi → β j = some bj → (∀ o, look hp i = some o → o ≠ .dead) → (∀ o, look hp j = some o → o ≠ .dead) → bi.blk = bj.blk → i = j
  own : ∀ i bi, β i = some bi → ¬ S bi.blk ∧ bi.blk < w.heap.size ∧ ((given ≤ i ∧ F.M bi.blk) ∨ F.w0.heap.size ≤ bi.blk)
  sub : ∀ b, S b → b < w.heap.size
  base : ∀ b, F.S0 b → S b
  new : ∀ b, S b → F.S0 b ∨ F.w0.heap.size ≤ b
  giv : ∀ i b, given ≤ i → F.β0 i = some b → β i = some b

theorem Mem.tabw {F : Fr} {S : Blk} {β : Beta} {hp : List (Nat × Ob)} {w : World} (M : Mem F S β hp w) : Tabs w ∧ 0 < F.w0.heap.size := by
  obtain ⟨⟨t, fz, h⟩, hM⟩ := M.tab
  have hlt : 0 < F.w0.heap.size := (Array.getElem?_eq_some_iff.1 h).1
  exact ⟨⟨t, fz, (M.keep 0 hlt hM).trans h⟩, hlt⟩

/-- A piece's block is not the table's. -/
theorem Mem.not0 {F : Fr} {S : Blk} {β : Beta} {hp : List (Nat × Ob)} {w : World} (M : Mem F S β hp w) {i : Nat} {bi : Bl} (h : β i = some bi) : bi.blk ≠ 0 := by
  intro e
  rcases (M.own i bi h).2.2 with ⟨_, c⟩ | c
  · rw [e] at c; exact M.tab.2 c
  · rw [e] at c; have := M.tabw.2; omega

def lookD (env : List (Nat × AV)) (t : Nat) : AV := (look env t).getD .dead

/-- The frame stands for the table of slots. -/
def Env (S : Blk) (β : Beta) (w : World) (n : Nat) (env : List (Nat × AV)) (a : Act) : Prop :=
  a.tmps.size = n ∧ a.defers = [] ∧ ∀ t, V S β w (a.eval (.tmp t)) (lookD env t)

/-- One step of memory to the next: what may be read grows, pieces come, what could be read reads as before. -/
structure Ext (S S' : Blk) (β β' : Beta) (w w' : World) : Prop where
  hS : ∀ b, S b → S' b
  hβ : ∀ i b, β i = some b → β' i = some b
  agr : Agr S w w'

theorem Ext.refl (S : Blk) (β : Beta) (w : World) : Ext S S β β w w := ⟨fun _ h => h, fun _ _ h => h, Agr.refl S w⟩
theorem Ext.trans {S S' S'' : Blk} {β β' β'' : Beta} {w w' w'' : World} (h : Ext S S' β β' w w') (k : Ext S' S'' β' β'' w' w'') : Ext S S'' β β'' w w'' :=
  ⟨fun b hb => k.hS b (h.hS b hb), fun i b hb => k.hβ i b (h.hβ i b hb), h.agr.trans (k.agr.less h.hS)⟩
theorem V.ext {S S' : Blk} {β β' : Beta} {w w' : World} (e : Ext S S' β β' w w') {v : Value} {x : AV} (h : V S β w v x) : V S' β' w' v x := h.mono e.hS e.hβ e.agr

theorem Env.ext {S S' : Blk} {β β' : Beta} {w w' : World} (e : Ext S S' β β' w w') {n : Nat} {env : List (Nat × AV)} {a : Act} (h : Env S β w n env a) : Env S' β' w' n env a :=
  ⟨h.1, h.2.1, fun t => (h.2.2 t).ext e⟩

theorem Act.eval_put_same {a : Act} {d : Nat} (h : d < a.tmps.size) (v : Value) : (a.put (some d) v).eval (.tmp d) = v := by
  simp [Act.put, Act.eval, h]
theorem Act.eval_put_ne {a : Act} {d t : Nat} (h : d ≠ t) (v : Value) : (a.put (some d) v).eval (.tmp t) = a.eval (.tmp t) := by
  simp only [Act.put, Act.eval, Array.getD_eq_getD_getElem?]
  rw [Array.getElem?_setIfInBounds_ne h]

theorem Env.put {S : Blk} {β : Beta} {w : World} {n : Nat} {env : List (Nat × AV)} {a : Act} (h : Env S β w n env a) {d : Nat} (hd : d < n) {v : Value} {x : AV} (hv : V S β w v x) :
    Env S β w n (putL env d x) (a.put (some d) v) := by
  obtain ⟨h1, h2, h3⟩ := h
  refine ⟨by simpa [Act.put] using h1, by simpa [Act.put] using h2, fun t => ?_⟩
  unfold lookD
  rw [look_put]
  by_cases e : d = t
  · subst e
    rw [if_pos rfl, Act.eval_put_same (by omega)]
    exact hv
  · rw [if_neg e, Act.eval_put_ne e]
    exact h3 t

end Go.Ped
