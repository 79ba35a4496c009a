/-
  The engine, part 2: what an operation does to values without addresses. Plain definitions.
-/
import Derived.Test.YthhfolohakiemaaGreatDoorChk
set_option linter.unusedVariables false
namespace Go.Ped
open Go.RowKit

/-- How code ends. -/
inductive Out where
  | normal
  | exit (id : Nat)
  | ret

/-- What the one who proves says ahead: a truth value is left as it is, or told; an element; what a call hands back (which pieces it is told of, which turn). -/
inductive Dir where
  | keep
  | is (b : Bool)
  | elt (e : AV)
  | text (s : ByteArray)
  | call (r : AV) (rd : List Nat) (upd : List (Nat × Ob))
  | sum (e : Out) (env : List (Nat × AV)) (hp : List (Nat × Ob))
  | part (e : Out) (env : List (Nat × AV)) (hp : List (Nat × Ob))

/-- A program that looks at pieces. -/
inductive Rd (α : Type) where
  | ret (a : α)
  | need (id : Nat) (k : Ob → Rd α)
  | fail

def Rd.run {α : Type} (h : Nat → Option Ob) : Rd α → Option (α × List Nat)
  | .ret a => some (a, [])
  | .need id k => match h id with
    | some o => match (k o).run h with
      | some (a, l) => some (a, id :: l)
      | none => none
    | none => none
  | .fail => none

theorem Rd.run_local {α : Type} {h h' : Nat → Option Ob} : ∀ {r : Rd α} {a : α} {l : List Nat}, r.run h = some (a, l) → (∀ id, id ∈ l → h' id = h id) → r.run h' = some (a, l)
  | .ret _, _, _, e, _ => e
  | .need id k, a, l, e, hl => by
    simp only [Rd.run] at e ⊢
    cases ho : h id with
    | none => rw [ho] at e; cases e
    | some o =>
      rw [ho] at e
      cases hk : (k o).run h with
      | none => simp only [hk] at e; cases e
      | some x =>
        obtain ⟨b, m⟩ := x
        simp only [hk] at e
        injection e with e
        injection e with e1 e2
        subst e1; subst e2
        rw [hl id (by simp), ho]
        have := Rd.run_local hk (h' := h') (fun i hi => hl i (by simp [hi]))
        simp only [this]
  | .fail, _, _, e, _ => by cases e

/-- The outcome of an operation: the value; the pieces that turn; those among them that are new; what must hold; what is left of what was said ahead. -/
structure Res where
  v : AV
  upd : List (Nat × Ob) := []
  new : List Nat := []
  cs : List Cond := []
  sc : List Dir

def val (v : AV) (sc : List Dir) : Rd Res := .ret { v := v, sc := sc }
def valIf (v : AV) (c : Prop) [Chk c] (sc : List Dir) : Rd Res := .ret { v := v, cs := [mkC c], sc := sc }

/-- A truth value. -/
def truth (b : Bool) : List Dir → Rd Res
  | .is d :: sc => valIf (.bool d) (b = d) sc
  | .keep :: sc => val (.bool b) sc
  | _ => .fail

def const1 : Value → AV
  | .int k n => .int k n
  | .bool b => .bool b
  | .string s => .str s
  | .pointer none => .nilp
  | .slice none 0 0 => .nils
  | .map none => .nilmap
  | .nilFunc => .nilf
  | .nilIface => .nili
  | _ => .dead

/-- What a constant of the program's stands for. -/
def constA : Value → AV
  | .agg cs => .agg (cs.toList.map const1)
  | v => const1 v

def evalA (env : List (Nat × AV)) : Operand → AV
  | .tmp t => lookD env t
  | .const v => constA v
  | .func f => .clo f [] []
  | .global _ => .dead

def sizeA (P : Program) (t : TypeId) : Option Nat := (P.info? t).map (·.size)

def aggA (P : Program) (t : TypeId) : Option Bool :=
  match P.underlying t with
  | some (.struct _) => some true
  | some (.array _ _) => some true
  | some _ => some false
  | none => none

/-- No slice is a slice of nothing. -/
def unNil : AV → AV
  | .nils => .seq [] true
  | x => x

def pickA (b : Bool) : AV → AV → AV
  | .bool x, .bool y => .bool (bif b then x else y)
  | x, y => bif b then x else y

def newVar (d : Nat) (x : AV) (sc : List Dir) : Rd Res := .ret { v := .elt d 0 0, upd := [(d, .var x.cells)], new := [d], sc := sc }

def isDead : AV → Bool
  | .dead => true
  | _ => false

/-- A value out of cells, from a place on. -/
def readA (P : Program) (t : TypeId) (cs : List AV) : Option AV :=
  match aggA P t, sizeA P t with
  | some true, some n => if n ≤ cs.length then some (.agg (cs.take n)) else none
  | some false, some _ => cs.head?
  | _, _ => none

def loadA (P : Program) (t : TypeId) : AV → List Dir → Rd Res
  | .tptr cs, sc => match readA P t cs with
    | some v => val v sc
    | none => .fail
  | .elt id k off, sc => .need id fun
    | .var cs => if k = 0 then (match readA P t (cs.drop off) with
      | some v => val v sc
      | none => .fail) else .fail
    | .row _ es => match sc with
      | .elt e :: sc => (match readA P t (e.cells.drop off) with
        | some v => valIf v (es[k]? = some e) sc
        | none => .fail)
      | _ => .fail
    | _ => .fail
  | _, _ => .fail

/-- A cell that is told: it can be stored. -/
def solid : AV → Bool
  | .agg _ => false
  | .tup _ => false
  | .dead => false
  | _ => true

/-- An element of so many cells, all told. -/
def okE (n : Nat) (e : AV) : Prop := e.cells.length = n ∧ ∀ c, c ∈ e.cells → solid c = true

instance chkOkE {n : Nat} {e : AV} : Chk (okE n e) := inferInstanceAs (Chk (e.cells.length = n ∧ ∀ c, c ∈ e.cells → solid c = true))

/-- Cells with others written over them, from a place on. -/
def overA (cs : List AV) (off : Nat) (xs : List AV) : List AV := cs.take off ++ xs ++ cs.drop (off + xs.length)

def storeA (P : Program) (t : TypeId) (p x : AV) (sc : List Dir) : Rd Res :=
  if x.cells.all solid = false then .fail else
  if sizeA P t ≠ some x.cells.length then .fail else
  match p with
  | .elt id k off => .need id fun
    | .var cs => if k = 0 ∧ off + x.cells.length ≤ cs.length then .ret { v := .dead, upd := [(id, .var (overA cs off x.cells))], sc := sc } else .fail
    | .row sz es =>
      if off = 0 ∧ x.cells.length = sz then .ret { v := .dead, upd := [(id, .row sz (es.set k x))], cs := [mkC (k < es.length)], sc := sc }
      else match sc with
        | .elt e :: sc => if off + x.cells.length ≤ e.cells.length then .ret { v := .dead, upd := [(id, .row sz (es.set k (.agg (overA e.cells off x.cells))))], cs := [mkC (es[k]? = some e)], sc := sc } else .fail
        | _ => .fail
    | _ => .fail
  | _ => .fail

def fillA (place : Nat → Option (Nat × Nat)) (cells : List AV) : List (Nat × AV) → Option (List AV)
  | [] => some cells
  | (i, v) :: rest => match place i with
    | none => none
    | some (off, size) => if isDead v ∨ v.cells.length ≠ size ∨ off + v.cells.length > cells.length then none else fillA place (overA cells off v.cells) rest

def zeroA (P : Program) (t : TypeId) : Option AV := ((P.info? t).bind (·.zero)).map constA

def buildA (P : Program) (t : TypeId) (parts : List (Nat × AV)) (sc : List Dir) : Rd Res :=
  match P.underlying t, zeroA P t with
  | some (.struct fields), some z =>
    (match fields.toList.mapM (fun f => (P.info? f.type).map fun i => (f.offset, i.size)) with
    | some places => (match fillA (places.toArray[·]?) z.cells parts with
      | some cs => if isDead z then .fail else val (.agg cs) sc
      | none => .fail)
    | none => .fail)
  | _, _ => .fail

def rowOf (P : Program) (d : Nat) (t : TypeId) (n : Nat) (parts : List (Nat × AV)) (sc : List Dir) : Rd Res :=
  match P.underlying t with
  | some (.slice e) => match sizeA P e, zeroA P e with
    | some sz, some z =>
      if n = 0 then (if parts.isEmpty then val (.seq [] true) sc else .fail) else
      if parts.map (·.1) = List.range n ∧ parts.all (fun x => !isDead x.2 && x.2.cells.length == sz) ∧ n * sz ≤ 16777216 ∧ 0 < sz ∧ z.cells.length = sz then
        .ret { v := .row d 0 n, upd := [(d, .row sz (parts.map (·.2)))], new := [d], sc := sc }
      else .fail
    | _, _ => .fail
  | _ => .fail

def offsetA (P : Program) (s : TypeId) (f : Nat) : Option Nat :=
  match P.underlying s with
  | some (.struct fields) => match fields[f]? with
    | some x => match sizeA P x.type with
      | some 0 => none
      | some _ => some x.offset
      | none => none
    | none => none
  | _ => none

def fieldAddrA (P : Program) (s : TypeId) (f : Nat) (p : AV) (sc : List Dir) : Rd Res :=
  match offsetA P s f with
  | some o => match p with
    | .elt id k off => val (.elt id k (off + o)) sc
    | .tptr cs => val (.tptr (cs.drop o)) sc
    | _ => .fail
  | none => .fail

def fieldA (P : Program) (s : TypeId) (f : Nat) (x : AV) (sc : List Dir) : Rd Res :=
  match P.underlying s, x with
  | some (.struct fields), .agg cs => match fields[f]? with
    | some g => match readA P g.type (cs.drop g.offset) with
      | some v => val v sc
      | none => .fail
    | none => .fail
  | _, _ => .fail

def elemA (P : Program) (t : TypeId) : Option (TypeId × Nat) :=
  match P.underlying t with
  | some (.slice e) => (sizeA P e).map fun n => (e, n)
  | _ => none

def indexAddrA (P : Program) (t : TypeId) (x : AV) (n : Int) (sc : List Dir) : Rd Res :=
  match elemA P t with
  | some (_, size) => match x with
    | .seq es _ => (match sc with
      | .elt e :: sc => if e.cells.length = size then valIf (.tptr e.cells) (0 ≤ n ∧ es[n.toNat]? = some e) sc else .fail
      | _ => .fail)
    | .row id off len => .need id fun
      | .row sz _ => if sz = size then valIf (.elt id (off + n.toNat) 0) (0 ≤ n ∧ n < len) sc else .fail
      | _ => .fail
    | _ => .fail
  | none => .fail

def indexA (P : Program) (t : TypeId) (x : AV) (n : Int) (sc : List Dir) : Rd Res :=
  match P.underlying t, x with
  | some .string, .str s => (match sc with
    | .elt (.int .u8 m) :: sc => valIf (.int .u8 m) (0 ≤ n ∧ ∃ b : UInt8, s.data.toList[n.toNat]? = some b ∧ m = b.toNat) sc
    | _ => .fail)
  | _, _ => .fail

/-- Integer arithmetic that does not leave its kind. -/
def arithA (k : IntKind) (n : Int) (sc : List Dir) : Rd Res := valIf (.int k n) (k.wrap n = n) sc

/-- Fields of a struct, one behind the other, cell by cell. -/
def eqFs (P : Program) (f : TypeId → List AV → List AV → Option (Bool × List AV × List AV)) : List Field → Nat → List AV → List AV → Option (Bool × List AV × List AV)
  | [], _, xs, ys => some (true, xs, ys)
  | g :: gs, n, xs, ys =>
    if g.offset = n ∧ g.name ≠ "_" then
      match f g.type xs ys, sizeA P g.type, aggA P g.type with
      | some (c, xs', ys'), some m, some b =>
        if xs.length = m + xs'.length ∧ ys.length = m + ys'.length ∧ (b = false → m = 1) then
          match eqFs P f gs (n + m) xs' ys' with
          | some (r, xs'', ys'') => some (c && r, xs'', ys'')
          | none => none
        else none
      | _, _, _ => none
    else none

/-- Equality of cells by their type (integers, truth values, texts, structs of these); what is left behind them. -/
def eqTy (P : Program) : Nat → TypeId → List AV → List AV → Option (Bool × List AV × List AV)
  | 0, _, _, _ => none
  | d + 1, t, xs, ys => match P.underlying t, xs, ys with
    | some (.int _), .int k p :: xs, .int k' q :: ys => if k = k' then some (decide (p = q), xs, ys) else none
    | some .bool, .bool p :: xs, .bool q :: ys => some (decide (p = q), xs, ys)
    | some .string, .str p :: xs, .str q :: ys => some (decide (p = q), xs, ys)
    | some (.struct fields), xs, ys => if P.stoodInHeld t = true then none else eqFs P (eqTy P d) fields.toList 0 xs ys
    | _, _, _ => none

def cmpA (op : BinOp) (a b : Int) : Option Bool :=
  match op with
  | .eql => some (decide (a = b))
  | .neq => some (!decide (a = b))
  | .lss => some (decide (a < b))
  | .leq => some (decide (a ≤ b))
  | .gtr => some (decide (b < a))
  | .geq => some (decide (b ≤ a))
  | _ => none

def binOpA (P : Program) (op : BinOp) (t : TypeId) (x y : AV) (sc : List Dir) : Rd Res :=
  match x, y with
  | .int k a, .int k' b =>
    if k = k' then
      match op with
      | .add => arithA k (a + b) sc
      | .sub => arithA k (a - b) sc
      | .mul => arithA k (a * b) sc
      | _ => match cmpA op a b with
        | some c => truth c sc
        | none => .fail
    else .fail
  | .str a, .str b => match op with
    | .add => valIf (.str (a ++ b)) (a.size + b.size ≤ 9223372036854775807) sc
    | .eql => truth (decide (a = b)) sc
    | .neq => truth (!decide (a = b)) sc
    | .lss => truth (Op.bytesLess a.toList b.toList) sc
    | _ => .fail
  | .bool a, .bool b => if P.underlying t matches some .bool then (match op with
    | .eql => truth (decide (a = b)) sc
    | .neq => truth (!decide (a = b)) sc
    | _ => .fail) else .fail
  | _, _ => .fail

/-- Is it nil? -/
def nilQ : TypeDesc → AV → AV → Option Bool
  | .slice _, .nils, .nils => some true
  | .slice _, .row _ _ _, .nils => some false
  | .slice _, .seq (_ :: _) _, .nils => some false
  | .map _ _, .nilmap, .nilmap => some true
  | .map _ _, .map _, .nilmap => some false
  | .map _ _, .tmap _ _, .nilmap => some false
  | .pointer _, .nilp, .nilp => some true
  | .pointer _, .elt _ _ _, .nilp => some false
  | .pointer _, .tptr _, .nilp => some false
  | .func _ _ _, .nilf, .nilf => some true
  | .func _ _ _, .clo _ _ _, .nilf => some false
  | .interface _, .iface _ _, .nili => some false
  | _, _, _ => none

def isNilV : AV → Bool
  | .nils => true
  | .nilmap => true
  | .nilp => true
  | .nilf => true
  | .nili => true
  | _ => false

/-- Something held against nil. -/
def nilA (P : Program) (op : BinOp) (t : TypeId) (x y : AV) (sc : List Dir) : Rd Res :=
  match P.underlying t with
  | some d => match nilQ d x y, op with
    | some b, .eql => truth b sc
    | some b, .neq => truth (!b) sc
    | _, _ => .fail
  | none => .fail

/-- Two structs held against each other. -/
def eqAggA (P : Program) (op : BinOp) (t : TypeId) (x y : AV) (sc : List Dir) : Rd Res :=
  match x, y with
  | .agg xs, .agg ys =>
    if P.eqGuardType P.depth t = false ∧ aggA P t = some true then
      match eqTy P 20 t xs ys, op with
      | some (b, [], []), .eql => truth b sc
      | some (b, [], []), .neq => truth (!b) sc
      | _, _ => .fail
    else .fail
  | _, _ => .fail

def u8A (P : Program) (e : TypeId) : Bool :=
  match P.underlying e with
  | some (.int .u8) => true
  | _ => false

def bytesA (id off len : Nat) : List Dir → Rd Res
  | .text s :: sc => .need id fun
    | .row sz es => if sz = 1 then valIf (.str s) (off = 0 ∧ len = s.size ∧ es.take len = s.data.toList.map fun b => .int .u8 b.toNat) sc else .fail
    | _ => .fail
  | _ => .fail

def convertA (P : Program) (src dst : TypeId) (x : AV) (sc : List Dir) : Rd Res :=
  match P.underlying src, P.underlying dst, x with
  | some (.int _), some (.int k), .int _ n => arithA k n sc
  | some .string, some .string, .str s => val (.str s) sc
  | some (.slice e), some .string, .row id off len =>
    if u8A P e = true then bytesA id off len sc else .fail
  | some .string, some (.slice e), .str s =>
    if u8A P e = true then valIf (.seq (s.data.toList.map fun b => .int .u8 b.toNat) false) (s.size ≤ maxLen) sc else .fail
  | _, _, _ => .fail

def makeSliceA (P : Program) (d : Nat) (t : TypeId) (n c : Int) (sc : List Dir) : Rd Res :=
  match P.underlying t with
  | some (.slice e) => match P.info? e, zeroA P e with
    | some i, some z => if z.cells.length = i.size ∧ 0 < i.size ∧ ¬ isDead z then
        .ret { v := .row d 0 n.toNat, upd := [(d, .row i.size (List.replicate n.toNat z))], new := [d], cs := [mkC (n = c ∧ 0 ≤ n ∧ n * i.bytes ≤ 140737488355328 ∧ n ≤ 9223372036854775807)], sc := sc } else .fail
    | _, _ => .fail
  | _ => .fail

/-- A slice of a slice, or of a text. -/
def sliceA (P : Program) (t : TypeId) (x : AV) (lo hi mx : Option AV) (sc : List Dir) : Rd Res :=
  match elemA P t with
  | some (_, size) => (match x, lo, hi, mx with
    | .row id off len, none, some (.int _ h), none => .need id fun
      | .row _ es => valIf (.row id off h.toNat) (0 ≤ h ∧ off + h.toNat ≤ es.length) sc
      | _ => .fail
    | .row id off len, some (.int _ l), none, none => .need id fun
      | .row sz _ => if sz = size then valIf (.row id (off + l.toNat) (len - l.toNat)) (0 ≤ l ∧ l ≤ len) sc else .fail
      | _ => .fail
    | .seq es _, some (.int _ l), none, none => valIf (.seq (es.drop l.toNat) false) (0 ≤ l ∧ l ≤ es.length ∧ ∀ e, e ∈ es → e.cells.length = size) sc
    | .seq es _, none, some (.int _ h), none => valIf (.seq (es.take h.toNat) false) (0 ≤ h ∧ h ≤ es.length) sc
    | .seq _ _, none, some (.int _ 0), some (.int _ 0) => val (.seq [] true) sc
    | .row _ _ _, none, some (.int _ 0), some (.int _ 0) => val (.seq [] true) sc
    | .row id off _, some (.int _ l), some (.int _ h), none => .need id fun
      | .row sz es => if sz = size then valIf (.row id (off + l.toNat) (h.toNat - l.toNat)) (0 ≤ l ∧ l ≤ h ∧ off + h.toNat ≤ es.length) sc else .fail
      | _ => .fail
    | .row id off _, some (.int _ l), some (.int _ h), some (.int _ m) => .need id fun
      | .row _ es => valIf .dead (0 ≤ l ∧ l ≤ h ∧ h ≤ m ∧ off + m.toNat ≤ es.length) sc
      | _ => .fail
    | .seq es _, some (.int _ l), some (.int _ h), none => valIf (.seq ((es.take h.toNat).drop l.toNat) false) (0 ≤ l ∧ l ≤ h ∧ h ≤ es.length ∧ ∀ e, e ∈ es → e.cells.length = size) sc
    | _, _, _, _ => .fail)
  | none => .fail

/-- A piece of a text. -/
def cutA (P : Program) (t : TypeId) (s : ByteArray) (lo hi : Option AV) (sc : List Dir) : Rd Res :=
  match P.underlying t with
  | some .string => (match lo, hi with
    | none, some (.int _ h) => valIf (.str (s.extract 0 h.toNat)) (0 ≤ h ∧ h ≤ s.size) sc
    | some (.int _ l), none => valIf (.str (s.extract l.toNat s.size)) (0 ≤ l ∧ l ≤ s.size) sc
    | some (.int _ l), some (.int _ h) => valIf (.str (s.extract l.toNat h.toNat)) (0 ≤ l ∧ l ≤ h ∧ h ≤ s.size) sc
    | _, _ => .fail)
  | _ => .fail

def lenA (P : Program) (t : TypeId) (x : AV) (sc : List Dir) : Rd Res :=
  match P.underlying t, x with
  | some (.slice _), .seq es _ => val (.int .i64 es.length) sc
  | some (.slice _), .row _ _ n => val (.int .i64 n) sc
  | some .string, .str s => val (.int .i64 s.size) sc
  | _, _ => .fail

/-- What is put behind: the elements; what must hold. -/
def newsA : AV → (List AV → Cond → Rd Res) → Rd Res
  | .seq es _, k => k es (mkC True)
  | .row id off len, k => .need id fun
    | .row _ es => k ((es.drop off).take len) (mkC (off + len ≤ es.length))
    | _ => .fail
  | _, _ => .fail

/-- 'append': onto nothing: a new piece; onto the whole of a piece: a new one in its stead (the elder is dead); within a piece: over what lies there. -/
def appendA (P : Program) (d : Nat) (t : TypeId) (x y : AV) (sc : List Dir) : Rd Res :=
  match P.underlying t with
  | some (.slice e) => match P.info? e, zeroA P e with
    | some i, some z =>
      if z.cells.length = i.size ∧ 0 < i.size ∧ ¬ isDead z then
        match x, sc with
        | .seq es c, .is false :: sc => newsA y fun ys q => valIf (.seq es c) (q.p ∧ ys = []) sc
        | .row id off len, .is false :: sc => newsA y fun ys q => valIf (.row id off len) (q.p ∧ ys = []) sc
        | .seq es true, .is true :: sc => newsA y fun ys q =>
          .ret { v := .row d 0 (es.length + ys.length), upd := [(d, .row i.size (es ++ ys))], new := [d], cs := [mkC (q.p ∧ ys ≠ [] ∧ (∀ e, e ∈ ys → okE i.size e) ∧ (∀ e, e ∈ es → okE i.size e) ∧ ((es.length + ys.length : Nat) : Int) * i.bytes ≤ 140737488355328 ∧ es.length + ys.length ≤ maxLen)], sc := sc }
        | .row id off len, .text _ :: sc => .need id fun
          | .row sz es => newsA y fun ys q =>
            if sz = i.size then
              .ret { v := .row id off (len + ys.length), upd := [(id, .row sz (es.take len ++ ys ++ es.drop (len + ys.length)))], cs := [mkC (q.p ∧ off = 0 ∧ len + ys.length ≤ es.length ∧ (∀ e, e ∈ ys → okE i.size e) ∧ ys ≠ [])], sc := sc }
            else .fail
          | _ => .fail
        | .row id off len, .is true :: sc => .need id fun
          | .row sz es => newsA y fun ys q =>
            if sz = i.size ∧ (id < given ∨ given ≤ d) then
              .ret { v := .row d 0 (len + ys.length), upd := [(id, .dead), (d, .row sz (es ++ ys))], new := [d], cs := [mkC (q.p ∧ off = 0 ∧ len = es.length ∧ (∀ e, e ∈ ys → okE i.size e) ∧ (∀ e, e ∈ es → okE i.size e) ∧ ((len + ys.length : Nat) : Int) * i.bytes ≤ 140737488355328 ∧ len + ys.length ≤ maxLen)], sc := sc }
            else .fail
          | _ => .fail
        | _, _ => .fail
      else .fail
    | _, _ => .fail
  | _ => .fail

def zips : List Nat → (List (Nat × Ob) → Rd Res) → Rd Res
  | [], k => k []
  | id :: r, k => .need id fun o => zips r fun l => k ((id, o) :: l)

/-- What a call of a function of the program's comes to: over whatever memory that holds the pieces which it is told of. -/
def Spec (P : Program) (f : FuncId) (args : List AV) (pre : List (Nat × Ob)) (r : AV) (upd : List (Nat × Ob)) : Prop :=
  ∀ (F : Fr) (S : Blk) (β : Beta) (hp : List (Nat × Ob)) (w : World) (vs : List Value), Mem F S β hp w → vs.length = args.length → (∀ (i : Nat) v x, vs[i]? = some v → args[i]? = some x → V S β w v x) →
    (∀ id o, (id, o) ∈ pre → look hp id = some o) → (∀ id o, (id, o) ∈ upd → (∀ o', (id, o') ∉ pre) → look hp id = none) →
    Calls P f vs.toArray w fun e w' => ∃ v S' β', e = .returned v ∧ Ext S S' β β' w w' ∧ Mem F S' β' (upd.foldl (fun h x => putL h x.1 x.2) hp) w' ∧ V S' β' w' v r

def callA (P : Program) (f : AV) (args : List AV) (sc : List Dir) : Rd Res :=
  match f, sc with
  | .clo g first cap, .call r rd upd :: sc =>
    match P.funcs[g]? with
    | some fn => if fn.body.isSome ∧ fn.name ≠ "runtime.NumGoroutine" then
        zips rd fun pre => .ret { v := r, upd := upd, new := (upd.map (·.1)).filter (fun i => !rd.contains i), cs := [rawC (Spec P g (first ++ args ++ cap) pre r upd)], sc := sc } else .fail
    | none => .fail
  | _, _ => .fail

/-- 'clear' of a slice. -/
def clearA (P : Program) (t : TypeId) (x : AV) (sc : List Dir) : Rd Res :=
  match P.underlying t with
  | some (.slice e) => match zeroA P e, sizeA P e with
    | some z, some size => (match x with
      | .seq [] _ => val (.tup []) sc
      | .row id off len => .need id fun
        | .row sz es => if sz = size ∧ z.cells.length = size ∧ 0 < size ∧ z.cells.all solid = true then .ret { v := .tup [], upd := [(id, .row sz (es.take off ++ List.replicate len z ++ es.drop (off + len)))], cs := [mkC (off + len ≤ es.length)], sc := sc } else .fail
        | _ => .fail
      | _ => .fail)
    | _, _ => .fail
  | _ => .fail

def builtinA (P : Program) (d : Nat) (b : Builtin) (ts : Array TypeId) (vs : List AV) (sc : List Dir) : Rd Res :=
  match b, ts.toList, vs with
  | .len, [t], [x] => lenA P t (unNil x) sc
  | .append, [t, u], [x, y] => if t = u then appendA P d t (unNil x) (unNil y) sc else .fail
  | .clear, [t], [x] => clearA P t (unNil x) sc
  | .max, [_, _], [.int k p, .int _ q] => val (.int k (if q > p then q else p)) sc
  | .min, [_, _], [.int k p, .int _ q] => val (.int k (if q < p then q else p)) sc
  | _, _, _ => .fail

/-- A type that is no interface. -/
def concA (P : Program) (t : TypeId) : Bool :=
  match P.underlying t with
  | some (.interface _) => false
  | some _ => true
  | none => false

def isAggV : AV → Bool
  | .agg _ => true
  | _ => false

def cutOr (P : Program) (t : TypeId) (x : AV) (lo hi mx : Option AV) (sc : List Dir) : Rd Res :=
  match x with
  | .str s => cutA P t s lo hi sc
  | x => sliceA P t x lo hi mx sc

/-! ### Maps whose keys are texts or integers -/

def sameA (s : Bool) : AV → AV → Option Bool
  | .int k a, .int k' b => if s = false ∧ k = k' then some (decide (a = b)) else none
  | .str a, .str b => if s = true then some (decide (a = b)) else none
  | _, _ => none

def findA (s : Bool) (k : AV) : List AV → Nat → Option (Option Nat)
  | [], _ => some none
  | x :: r, i => match sameA s k x with
    | some true => some (some i)
    | some false => findA s k r (i + 1)
    | none => none

/-- The type of a map's elements; whether its keys are texts. -/
def keyTy (P : Program) (t : TypeId) : Option (TypeId × TypeId × Bool) :=
  match P.underlying t with
  | some (.map k e) => match P.underlying k with
    | some .string => some (k, e, true)
    | some (.int _) => some (k, e, false)
    | _ => none
  | _ => none

def outA (ok : Bool) (v : AV) (b : Bool) : AV := bif ok then .tup [v, .bool b] else v

def foundA (P : Program) (e : TypeId) (ok : Bool) (vs : List AV) : Option (Option Nat) → List Dir → Rd Res
  | some (some i), sc => match vs[i]? with
    | some v => val (outA ok v true) sc
    | none => .fail
  | some none, sc => match zeroA P e with
    | some z => val (outA ok z false) sc
    | none => .fail
  | none, _ => .fail

def lookupA (P : Program) (t : TypeId) (m k : AV) (ok : Bool) (sc : List Dir) : Rd Res :=
  match keyTy P t with
  | some (_, e, s) => match m with
    | .nilmap => foundA P e ok [] (some none) sc
    | .tmap ks vs => foundA P e ok vs (findA s k ks 0) sc
    | .map id => .need id fun
      | .map ks vs => foundA P e ok vs (findA s k ks 0) sc
      | _ => .fail
    | _ => .fail
  | none => .fail

def updateA (P : Program) (t : TypeId) (m k v : AV) (sc : List Dir) : Rd Res :=
  match keyTy P t with
  | some (_, _, s) => match m with
    | .map id => .need id fun
      | .map ks vs => (match findA s k ks 0 with
        | some (some i) => .ret { v := .dead, upd := [(id, .map (ks.set i k) (vs.set i v))], sc := sc }
        | some none => .ret { v := .dead, upd := [(id, .map (ks ++ [k]) (vs ++ [v]))], sc := sc }
        | none => .fail)
      | _ => .fail
    | _ => .fail
  | none => .fail

/-! ### Maps whose keys are structs of texts, integers, truth values -/

def plainA (P : Program) (t : TypeId) : Bool :=
  match P.underlying t with
  | some .string => true
  | some (.int _) => true
  | some .bool => true
  | _ => false

/-- The type of a map's keys (a struct of plain fields) and of its elements. -/
def keyStruct (P : Program) (t : TypeId) : Option (TypeId × TypeId × List Field) :=
  match P.underlying t with
  | some (.map k e) => match P.underlying k with
    | some (.struct fields) => if fields.toList.all (fun f => plainA P f.type && decide (sizeA P f.type = some 1)) = true then some (k, e, fields.toList) else none
    | _ => none
  | _ => none

def findS (P : Program) (t : TypeId) (xs : List AV) : List AV → Nat → Option (Option Nat)
  | [], _ => some none
  | .agg ys :: r, i => match eqTy P 20 t xs ys with
    | some (true, [], []) => some (some i)
    | some (false, [], []) => findS P t xs r (i + 1)
    | _ => none
  | _ :: _, _ => none

/-- All fields lie there. -/
def fieldsIn (l : List Field) (n : Nat) : Bool := l.all fun f => decide (f.offset < n)

def lookupS (P : Program) (t : TypeId) (m k : AV) (ok : Bool) (sc : List Dir) : Rd Res :=
  match keyStruct P t, k with
  | some (kt, e, l), .agg xs => if fieldsIn l xs.length = true then (match m with
    | .nilmap => foundA P e ok [] (some none) sc
    | .map id => .need id fun
      | .map ks vs => foundA P e ok vs (findS P kt xs ks 0) sc
      | _ => .fail
    | _ => .fail) else .fail
  | _, _ => .fail

def updateS (P : Program) (t : TypeId) (m k v : AV) (sc : List Dir) : Rd Res :=
  match keyStruct P t, k with
  | some (kt, _, l), .agg xs => if fieldsIn l xs.length = true then (match m with
    | .map id => .need id fun
      | .map ks vs => (match findS P kt xs ks 0 with
        | some none => .ret { v := .dead, upd := [(id, .map (ks ++ [k]) (vs ++ [v]))], sc := sc }
        | _ => .fail)
      | _ => .fail
    | _ => .fail) else .fail
  | _, _ => .fail

/-- A type assertion to a type that is no interface. -/
def assertA (P : Program) (x : AV) (t : TypeId) (ok : Bool) (sc : List Dir) : Rd Res :=
  if concA P t = true then
    match x with
    | .iface d v => if d = t then val (outA ok v true) sc else (match ok, zeroA P t with
      | true, some z => val (outA true z false) sc
      | _, _ => .fail)
    | .nili => (match ok, zeroA P t with
      | true, some z => val (outA true z false) sc
      | _, _ => .fail)
    | _ => .fail
  else .fail

/-- WHAT AN OPERATION DOES. 'd': the slot that it writes; 'vs': its operands' values, in their order. -/
def evalOp (P : Program) (d : Nat) (op : Op) (vs : List AV) (sc : List Dir) : Rd Res :=
  match op, vs with
  | .move _, [x] => val x sc
  | .assign _, [x] => val x sc
  | .pick _ _ _, [.bool c, x, y] => val (pickA c x y) sc
  | .alloc t, [] => match zeroA P t with
    | some z => if isDead z then .fail else newVar d z sc
    | none => .fail
  | .box t _, [x] => if isDead x then .fail else newVar d x sc
  | .build t ps, xs => buildA P t ((ps.toList.map (·.1)).zip xs) sc
  | .buildSlice t n ps, xs => rowOf P d t n ((ps.toList.map (·.1)).zip xs) sc
  | .load t _, [p] => loadA P t p sc
  | .store t _ _, [p, x] => storeA P t p x sc
  | .nilCheck _, [.elt i k o] => val (.elt i k o) sc
  | .nilCheck _, [.tptr cs] => val (.tptr cs) sc
  | .binOp op t _ _ _, [x, y] => if isNilV y = true then nilA P op t x y sc else if isAggV x = true then eqAggA P op t x y sc else binOpA P op t x y sc
  | .unOp .not _ _, [.bool b] => val (.bool (!b)) sc
  | .convert s t _, [x] => convertA P s t x sc
  | .makeInterface t _, [x] => if concA P t = true then val (.iface t x) sc else .fail
  | .makeFunc (.func f) first cap, xs => if xs.length = first.size + cap.size then val (.clo f (xs.take first.size) (xs.drop first.size)) sc else .fail
  | .makeSlice t _ _, [.int .i64 n, .int .i64 c] => makeSliceA P d t n c sc
  | .slice t _ (some _) none none, [x, l] => cutOr P t (unNil x) (some l) none none sc
  | .slice t _ none (some _) none, [x, h] => cutOr P t (unNil x) none (some h) none sc
  | .slice t _ none (some _) (some _), [x, h, m] => sliceA P t (unNil x) none (some h) (some m) sc
  | .slice t _ (some _) (some _) none, [x, l, h] => cutOr P t (unNil x) (some l) (some h) none sc
  | .slice t _ (some _) (some _) (some _), [x, l, h, m] => sliceA P t (unNil x) (some l) (some h) (some m) sc
  | .fieldAddr t _ f, [p] => fieldAddrA P t f p sc
  | .field t _ f, [x] => fieldA P t f x sc
  | .indexAddr t _ _, [x, .int _ n] => indexAddrA P t (unNil x) n sc
  | .index t _ _, [x, .int _ n] => indexA P t x n sc
  | .extract _ i, [.tup xs] => (match xs[i]? with
    | some x => val x sc
    | none => .fail)
  | .typeAssert _ _ t ok, [x] => assertA P x t ok sc
  | .makeMap _ none, [] => .ret { v := .map d, upd := [(d, .map [] [])], new := [d], sc := sc }
  | .lookup t _ _ ok, [m, k] => if isAggV k = true then lookupS P t m k ok sc else lookupA P t m k ok sc
  | .mapUpdate t _ _ _, [m, k, v] => if isAggV k = true then updateS P t m k v sc else updateA P t m k v sc
  | .call ⟨.value _, _, _⟩, f :: args => callA P f args sc
  | .call ⟨.builtin b, _, ts⟩, xs => builtinA P d b ts xs sc
  | _, _ => .fail

end Go.Ped
