/-
  The engine, part 22: AN INTERPRETER for what has no input: loops by fuel, calls by running the callee on the pieces that can be reached from its arguments.
-/
import Derived.Test.YthhfolohakiemaaGreatDoorDrop
set_option linter.unusedVariables false
namespace Go.Ped
open Go.RowKit

mutual
def idsOf : AV → List Nat
  | .agg cs => idsOfL cs
  | .tup cs => idsOfL cs
  | .clo _ a b => idsOfL a ++ idsOfL b
  | .iface _ v => idsOf v
  | .row id _ _ => [id]
  | .elt id _ _ => [id]
  | .map id => [id]
  | _ => []
def idsOfL : List AV → List Nat
  | [] => []
  | x :: r => idsOf x ++ idsOfL r
end

def idsOb : Ob → List Nat
  | .var cs => idsOfL cs
  | .row _ es => idsOfL es
  | .map ks vs => idsOfL ks ++ idsOfL vs
  | .dead => []

def hasN (k : Nat) : List Nat → Bool
  | [] => false
  | i :: r => bif Nat.beq i k then true else hasN k r

/-- What can be reached. -/
def reach (hp : List (Nat × Ob)) : Nat → List Nat → List Nat → List Nat
  | 0, _, done => done
  | _ + 1, [], done => done
  | f + 1, id :: r, done => bif hasN id done then reach hp f r done else
    match look hp id with
    | some .dead => reach hp f r done
    | some o => reach hp f (idsOb o ++ r) (id :: done)
    | none => reach hp f r done

/-- 'append' of so many elements: within the piece, if they lie there. -/
def appendDir (h : Nat → Option Ob) (x : AV) : Nat → List Dir
  | 0 => [.is false]
  | n + 1 => match x with
    | .row id 0 len => (match h id with
      | some (.row _ es) => if len + n < es.length then [.text ⟨#[]⟩] else [.is true]
      | _ => [.is true])
    | _ => [.is true]

/-- The script of an operation, out of what lies there. -/
def oracle (h : Nat → Option Ob) (op : Op) (vs : List AV) : List Dir :=
  match op, vs with
  | .load _ _, [.elt id k _] => (match h id with
    | some (.row _ es) => (match es[k]? with
      | some e => [.elt e]
      | none => [])
    | _ => [])
  | .store _ _ _, [.elt id k _, _] => (match h id with
    | some (.row _ es) => (match es[k]? with
      | some e => [.elt e]
      | none => [])
    | _ => [])
  | .indexAddr _ _ _, [.seq es _, .int _ n] => (match es[n.toNat]? with
    | some e => [.elt e]
    | none => [])
  | .index _ _ _, [.str s, .int _ n] => (match s.data.toList[n.toNat]? with
    | some b => [.elt (.int .u8 b.toNat)]
    | none => [])
  | .binOp _ _ _ _ _, _ => [.keep]
  | .convert _ _ _, [.row id _ len] => (match h id with
    | some (.row _ es) => [.text ⟨((es.take len).map fun e => match e with
      | .int _ n => UInt8.ofNat n.toNat
      | _ => 0).toArray⟩]
    | _ => [])
  | .call ⟨.builtin .append, _, _⟩, [x, .seq es _] => appendDir h x es.length
  | .call ⟨.builtin .append, _, _⟩, [x, .row id off len] => (match h id with
    | some (.row _ es) => appendDir h x ((es.drop off).take len).length
    | _ => [])
  | _, _ => []

def callOf (op : Op) (vs : List AV) : Option (FuncId × List AV) :=
  match op, vs with
  | .call ⟨.value _, _, _⟩, .clo g first cap :: args => some (g, first ++ args ++ cap)
  | _, _ => none

def prePairs (hp : List (Nat × Ob)) (rd : List Nat) : List (Nat × Ob) := rd.map fun id => (id, (look hp id).getD .dead)

abbrev Handler := FuncId → List AV → List (Nat × Ob) → Nat → Option (AV × List (Nat × Ob) × Nat)

/-- An operation of a region: what it did, its script, the next number. -/
def stepI (P : Program) (H : Handler) (base : Nat) (ops : Array Oper) (o : Oper) (st : St) (nb : Nat) : Option (Res × List Nat × List Dir × Nat) :=
  match wantA ops o st.env with
  | some true =>
    match callOf o.op (o.op.operands.toList.map (evalA st.env)) with
    | some (g, as) =>
      match H g as (prePairs st.hp (reach st.hp 100000 (idsOfL as) [])) nb with
      | some (r, upd, nb') =>
        match (evalOp P (base + o.dst.getD 0) o.op (o.op.operands.toList.map (evalA st.env)) [.call r (reach st.hp 100000 (idsOfL as) []) upd]).run (look st.hp) with
        | some (res, rd) => some (res, rd, [.call r (reach st.hp 100000 (idsOfL as) []) upd], nb')
        | none => none
      | none => none
    | none =>
      match (evalOp P (base + o.dst.getD 0) o.op (o.op.operands.toList.map (evalA st.env)) (oracle (look st.hp) o.op (o.op.operands.toList.map fun x => unNil (evalA st.env x)))).run (look st.hp) with
      | some (res, rd) => if res.cs.all (fun c => c.b) = true then some (res, rd, oracle (look st.hp) o.op (o.op.operands.toList.map fun x => unNil (evalA st.env x)), nb) else none
      | none => none
  | some false => some ({ v := .tup [], sc := [] }, [], [], nb)
  | none => none

/-- What a handler says holds. -/
def Handler.ok (P : Program) (H : Handler) : Prop := ∀ g as pre nb r upd nb', H g as pre nb = some (r, upd, nb') → Spec P g as pre r upd

section
variable {P : Program} {ops : Array Oper} {n : Nat}

theorem pairs_eq {hp : List (Nat × Ob)} : ∀ (pre : List (Nat × Ob)), (∀ id o, (id, o) ∈ pre → look hp id = some o) → pre = prePairs hp (pre.map (·.1))
  | [], _ => rfl
  | (i, o) :: r, h => by
    have h1 := h i o (by simp)
    have h2 := pairs_eq r fun id o' hm => h id o' (List.mem_cons_of_mem _ hm)
    show (i, o) :: r = (i, (look hp i).getD .dead) :: prePairs hp (r.map (·.1))
    rw [h1, ← h2]
    rfl

theorem call_cs {d : Nat} {op : Op} {vs : List AV} {g : FuncId} {as : List AV} {r : AV} {rd rd' : List Nat} {upd hp : List (Nat × Ob)} {res : Res} (hop : callOf op vs = some (g, as)) (h : (evalOp P d op vs [.call r rd upd]).run (look hp) = some (res, rd')) :
    ∀ c, c ∈ res.cs → c.p = Spec P g as (prePairs hp rd) r upd := by
  unfold callOf at hop
  split at hop
  · rename_i f args ts g' first cap args'
    injection hop with hop
    injection hop with e1 e2
    subst e1; subst e2
    have h' : (callA P (.clo g' first cap) args' [.call r rd upd]).run (look hp) = some (res, rd') := h
    unfold callA at h'
    simp only at h'
    split at h'
    · split at h'
      · obtain ⟨pre, rd2, i1, i2, i3⟩ := zips_run _ _ h'
        injection i3 with i3
        injection i3 with i3 _
        subst i3
        intro c hc
        have := List.mem_singleton.1 hc
        subst this
        show Spec P g' (first ++ args' ++ cap) pre r upd = _
        rw [← i1, ← pairs_eq pre i2]
      · cases h'
    · cases h'
  · cases hop

theorem stepI_sound {H : Handler} (hH : H.ok P) {base : Nat} {o : Oper} {st : St} {nb nb' : Nat} {res : Res} {rd : List Nat} {sc : List Dir} (h : stepI P H base ops o st nb = some (res, rd, sc, nb')) :
    (∃ sc, stepA P base ops o sc st = some (res, rd)) ∧ ∀ c, c ∈ res.cs → c.p := by
  unfold stepI at h
  split at h
  · rename_i hw
    split at h
    · rename_i g as hcall
      split at h
      · rename_i r upd nb2 hh
        split at h
        · rename_i res' rd2 hrun
          injection h with h
          simp only [Prod.mk.injEq] at h
          obtain ⟨rfl, rfl, rfl, rfl⟩ := h
          refine ⟨⟨_, by unfold stepA; rw [hw]; exact hrun⟩, fun c hc => ?_⟩
          rw [call_cs hcall hrun c hc]
          exact hH _ _ _ _ _ _ _ hh
        · cases h
      · cases h
    · split at h
      · rename_i res' rd2 hrun
        split at h
        · rename_i hall
          injection h with h
          simp only [Prod.mk.injEq] at h
          obtain ⟨rfl, rfl, rfl, rfl⟩ := h
          exact ⟨⟨_, by unfold stepA; rw [hw]; exact hrun⟩, fun c hc => c.h (List.all_eq_true.1 hall c hc)⟩
        · cases h
      · cases h
  · rename_i hw
    injection h with h
    simp only [Prod.mk.injEq] at h
    obtain ⟨rfl, rfl, rfl, rfl⟩ := h
    exact ⟨⟨[], by unfold stepA; rw [hw]⟩, by simp⟩
  · cases h

/-- The operations of a region, one behind the other. -/
def runOpsI (P : Program) (H : Handler) (base : Nat) (ops : Array Oper) : List Oper → St → Nat → Option (St × List Eff × Nat)
  | [], st, nb => some (st, [], nb)
  | o :: r, st, nb => match stepI P H base ops o st nb with
    | some (res, rd, _, nb1) =>
      if res.new.all (fun id => (look st.hp id).isNone) then
        match runOpsI P H base ops r ⟨putD st.env o.dst res.v, putAll st.hp res.upd⟩ nb1 with
        | some (st', es, nb2) => some (st', { dst := o.dst, v := res.v, upd := res.upd, new := res.new, rd := rd, looks := o.looksAt ops } :: es, nb2)
        | none => none
      else none
    | none => none

theorem runOpsI_chain {H : Handler} (hH : H.ok P) {base : Nat} : ∀ {l : List Oper} {k nb nb' : Nat} {st st' : St} {es : List Eff}, (∀ i o, l[i]? = some o → ops[k + i]? = some o) → runOpsI P H base ops l st nb = some (st', es, nb') →
    es.length = l.length ∧ Chain P ops st ((List.range' k es.length).zip es) ∧ apAll st ((List.range' k es.length).zip es) = st' := by
  intro l
  induction l with
  | nil =>
    intro k nb nb' st st' es _ h
    simp only [runOpsI] at h
    injection h with h
    simp only [Prod.mk.injEq] at h
    obtain ⟨h1, h2, h3⟩ := h
    subst h1; subst h2
    exact ⟨rfl, trivial, rfl⟩
  | cons o r ih =>
    intro k nb nb' st st' es ho h
    simp only [runOpsI] at h
    cases hs : stepI P H base ops o st nb with
    | none => rw [hs] at h; cases h
    | some x =>
      obtain ⟨res, rd, sc0, nb1⟩ := x
      rw [hs] at h
      simp only at h
      split at h
      · rename_i hnew
        cases hr : runOpsI P H base ops r ⟨putD st.env o.dst res.v, putAll st.hp res.upd⟩ nb1 with
        | none => rw [hr] at h; cases h
        | some y =>
          obtain ⟨s2, e2, n2⟩ := y
          rw [hr] at h
          injection h with h
          simp only [Prod.mk.injEq] at h
          obtain ⟨h1, h2, h3⟩ := h
          subst h1; subst h2
          obtain ⟨⟨sc, hst⟩, hcs⟩ := stepI_sound hH hs
          obtain ⟨i1, i2, i3⟩ := ih (k := k + 1) (fun i o' hi => by have := ho (i + 1) o' (by simpa using hi); rw [← this]; congr 1; omega) hr
          refine ⟨by simp [i1], ?_, ?_⟩
          · simp only [List.length_cons, List.range'_succ, List.zip_cons_cons]
            refine ⟨⟨o, base, sc, res, rd, ho 0 o rfl, hst, hcs, fun id hid => ?_, rfl⟩, i2⟩
            have := List.all_eq_true.1 hnew id hid
            simpa using this
          · simp only [List.length_cons, List.range'_succ, List.zip_cons_cons]
            exact i3
      · cases h

def regionI (P : Program) (H : Handler) (n : Nat) (ops : Array Oper) (draw : Bool) (st : St) (nb : Nat) : Option (St × Nat) :=
  if dstsIn n ops then
    match runOpsI P H nb ops ops.toList st (nb + n) with
    | some (st', es, nb') => match draw with
      | false => some (st', nb')
      | true => match masks .any ops.toList [] with
        | some ms => if pairsOK es ms then some (st', nb') else none
        | none => none
    | none => none
  else none

theorem regionI_sound {H : Handler} (hH : H.ok P) {F : Fr} {id : Nat} {draw : Bool} {st st' : St} {nb nb' : Nat} {Q : Exit → Act → World → Prop} {a : Act} {w : World} (hmix : P.follows .mixedOrders = true)
    (h : regionI P H n ops draw st nb = some (st', nb')) (hQ : ∀ a w, At F n st' a w → Q .normal a w) (hA : At F n st a w) : (Code.region id ops draw).wp P Q a w := by
  unfold regionI at h
  split at h
  · rename_i hdst
    have hd := dstsIn_spec hdst
    cases hr : runOpsI P H nb ops ops.toList st (nb + n) with
    | none => rw [hr] at h; cases h
    | some x =>
      obtain ⟨s, es, d⟩ := x
      rw [hr] at h
      simp only at h
      obtain ⟨l1, l2, l3⟩ := runOpsI_chain hH (k := 0) (fun i o hi => by simpa using hi) hr
      have hmap : ((List.range' 0 es.length).zip es).map (·.1) = List.range ops.size := by
        rw [List.map_fst_zip (by simp), List.range_eq_range', l1]
        simp
      cases draw with
      | false =>
        simp only at h
        injection h with h
        simp only [Prod.mk.injEq] at h
        obtain ⟨h1, h2⟩ := h
        subst h1
        refine wp_region ?_
        rw [← hmap]
        exact chain_ordered hd _ st a w l2 (by rw [l3]; exact hQ) hA
      | true =>
        cases hm : masks .any ops.toList [] with
        | none => rw [hm] at h; cases h
        | some ms =>
          rw [hm] at h
          simp only at h
          split at h
          · rename_i hp
            injection h with h
            simp only [Prod.mk.injEq] at h
            obtain ⟨h1, h2⟩ := h
            subst h1
            refine wp_region_any hmix ?_
            have hsz : ((List.range' 0 es.length).zip es).length = ops.size := by simp [l1]
            rw [← hsz]
            refine any_sound (masks_ok hm) hd s hQ _ _ st a _ (by simp [hsz]) ?_ (pairs_spec hp) ?_ ?_ l2 (by rw [l3]; exact .refl _) (hA.drew _)
            · intro j o hj hl
              rw [Array.getD_eq_getD_getElem?, Array.getElem?_replicate] at hl
              split at hl <;> simp at hl
            · intro i hi
              rw [hmap]
              simp only [List.mem_range, hi, iff_true]
              rw [Array.getD_eq_getD_getElem?, Array.getElem?_replicate]
              simp [l1, hi]
            · intro i hi
              rw [hmap] at hi
              exact List.mem_range.1 hi
          · cases h
  · cases h

def Ob.beq : Ob → Ob → Bool
  | .var a, .var b => AV.beqL a b
  | .row s a, .row t b => decide (s = t) && AV.beqL a b
  | .map a c, .map b d => AV.beqL a b && AV.beqL c d
  | .dead, .dead => true
  | _, _ => false

theorem Ob.beq_eq {x y : Ob} (h : Ob.beq x y = true) : x = y := by
  cases x <;> cases y <;> simp only [Ob.beq, Bool.and_eq_true, decide_eq_true_eq] at h
  · rw [AV.beqL_eq _ _ h]
  · cases h
  · cases h
  · cases h
  · cases h
  · rw [h.1, AV.beqL_eq _ _ h.2]
  · cases h
  · cases h
  · cases h
  · cases h
  · rw [AV.beqL_eq _ _ h.1, AV.beqL_eq _ _ h.2]
  · cases h
  · cases h
  · cases h
  · cases h
  · rfl

/-- What is known of calls ahead, and else another handler. -/
def orH (K H : Handler) : Handler := fun g as pre nb => match K g as pre nb with
  | some r => some r
  | none => H g as pre nb

theorem orH_ok {K H : Handler} (hK : K.ok P) (hH : H.ok P) : (orH K H).ok P := by
  intro g as pre nb r upd nb' h
  unfold orH at h
  split at h
  · rename_i x hx
    injection h with h
    subst h
    exact hK g as pre nb r upd nb' hx
  · exact hH g as pre nb r upd nb' h

/-- Nothing is known. -/
def noH : Handler := fun _ _ _ _ => none
theorem noH_ok : noH.ok P := by intro g as pre nb r upd nb' h; cases h

/-- Before a callee runs: what it is handed is told whole. -/
def entryOK (as : List AV) (pre : List (Nat × Ob)) : Bool := preOK pre && AV.beqL (renL (idT pre) as) as && pre.all fun x => Ob.beq (renOb (idT pre) x.2) x.2

/-- What is kept at a return. -/
def exitKeep (pre : List (Nat × Ob)) (hp : List (Nat × Ob)) (ids : List Nat) (r : Option AV) : List Nat :=
  reach hp 100000 (pre.map (·.1) ++ ids ++ (match r with
    | some v => idsOf v
    | none => [])) [] ++ pre.map (·.1)

/-- The variables that hold the results. -/
def resIds (st : St) : List ResultVar → List Nat
  | [] => []
  | .cell a _ :: r => idsOf (lookD st.env a) ++ resIds st r
  | .tmp _ :: r => resIds st r

/-- A callee, its body run by 'run'. -/
def callH (P : Program) (run : List Nat → Code → Nat → St → Nat → Option (Out × St × Nat)) : Handler := fun g as pre nb =>
  match P.funcs[g]? with
  | some fn => match fn.body with
    | some c =>
      if entryOK as pre = true then
        match run (pre.map (·.1)) c (as.length + (fn.ntmps - as.length)) ⟨argEnv 0 as, pre⟩ nb with
        | some (.exit _, _, _) => none
        | some (_, st1, nb') =>
          let st' := dropSt st1 (exitKeep pre st1.hp (resIds st1 fn.results.toList) (resA P st1 fn.results.toList))
          if uniqK st'.hp = true then
            match resA P st' fn.results.toList with
            | some r => some (r, st'.hp, nb')
            | none => none
          else none
        | none => none
      else none
    | none => none
  | none => none

theorem callH_ok {run : List Nat → Code → Nat → St → Nat → Option (Out × St × Nat)} (hrun : ∀ ks c n st nb e st' nb', run ks c n st nb = some (e, st', nb') → RunsK P n ks c st e st') : Handler.ok P (callH P run) := by
  intro g as pre nb r upd nb' h
  unfold callH at h
  split at h
  · rename_i fn hf
    split at h
    · rename_i c hb
      split at h
      · rename_i hen
        unfold entryOK at hen
        simp only [Bool.and_eq_true] at hen
        have hobs : ∀ id o, (id, o) ∈ pre → renOb (idT pre) o = o := fun id o hm => Ob.beq_eq (List.all_eq_true.1 hen.2 _ hm)
        split at h
        · cases h
        · rename_i e st1 nb1 hne hr
          simp only at h
          split at h
          · rename_i huq
            split at h
            · rename_i r' hres
              injection h with h
              simp only [Prod.mk.injEq] at h
              obtain ⟨rfl, rfl, rfl⟩ := h
              refine Spec.gen hf hb hen.1.1 huq (AV.beqL_eq _ _ hen.1.2) hobs (e := e) ?_ ?_ hres
              · intro F a w hk hA
                refine wp_mono (hrun _ _ _ _ _ _ _ _ hr F a w hk hA) fun e' a' w' ⟨h1, h2⟩ => ⟨h1, dropSt_at (fun i b hi => ?_) h2⟩
                exact List.mem_append_right _ (hk i b hi)
              · cases e with
                | normal => exact .inl rfl
                | ret => exact .inr rfl
                | exit i => exact (hne i rfl).elim
            · cases h
          · cases h
        · cases h
      · cases h
    · cases h
  · cases h

/-- THE INTERPRETER. -/
def runI (P : Program) (K : Handler) : Nat → List Nat → Code → Nat → St → Nat → Option (Out × St × Nat)
  | 0, _, _, _, _, _ => none
  | f + 1, ks, c, n, st, nb => match c with
    | .skip => some (.normal, st, nb)
    | .label _ => some (.normal, st, nb)
    | .exit id => some (.exit id, st, nb)
    | .ret => some (.ret, st, nb)
    | .region _ ops draw => match regionI P (orH K (callH P (runI P K f))) n ops draw st nb with
      | some (st', nb') => some (.normal, st', nb')
      | none => none
    | .seq a b => match runI P K f ks a n st nb with
      | some (.normal, st', nb') => runI P K f ks b n st' nb'
      | some (.exit id, st', nb') => some (.exit id, st', nb')
      | some (.ret, st', nb') => some (.ret, st', nb')
      | none => none
    | .cond o a b => match evalA st.env o with
      | .bool true => runI P K f ks a n st nb
      | .bool false => runI P K f ks b n st nb
      | _ => none
    | .block id b => match runI P K f ks b n st nb with
      | some (.exit i, st', nb') => if i = id then some (.normal, st', nb') else some (.exit i, st', nb')
      | some (.normal, st', nb') => some (.normal, st', nb')
      | some (.ret, st', nb') => some (.ret, st', nb')
      | none => none
    | .loop b => match runI P K f ks b n st nb with
      | some (.normal, st', nb') => runI P K f ks (.loop b) n (dropSt st' (reach st'.hp 100000 (ks ++ idsOfL (st'.env.map (·.2))) [] ++ ks)) nb'
      | some (.exit i, st', nb') => some (.exit i, st', nb')
      | some (.ret, st', nb') => some (.ret, st', nb')
      | none => none
    | _ => none

/-- The same of a loop, turn by turn. -/
def LoopsK (P : Program) (n : Nat) (ks : List Nat) (c : Code) (st : St) (e : Out) (st' : St) : Prop :=
  ∃ k, ∀ (F : Fr) (a : Act) (w : World), (∀ i b, F.β0 i = some b → i ∈ ks) → At F n st a w → Code.rounds P c (fun e' a' w' => e' = e.x ∧ At F n st' a' w') k a w

theorem LoopsK.leave {n : Nat} {ks : List Nat} {c : Code} {st st' : St} {e : Out} (h : RunsK P n ks c st e st') (he : e ≠ .normal) : LoopsK P n ks c st e st' := by
  refine ⟨1, fun F a w hk x => ?_⟩
  rw [rounds_succ]
  refine wp_mono (h F a w hk x) fun e' a' w' hh => ?_
  obtain ⟨h1, h2⟩ := hh
  subst h1
  cases e with
  | normal => exact absurd rfl he
  | exit id => exact ⟨rfl, h2⟩
  | ret => exact ⟨rfl, h2⟩

theorem wp_ofK {n : Nat} {ks : List Nat} {st st' : St} {e : Out} {c : Code} {Q : Exit → Act → World → Prop} {F : Fr} {a : Act} {w : World} (h : RunsK P n ks c st e st') (hk : ∀ i b, F.β0 i = some b → i ∈ ks) (hA : At F n st a w) (hQ : ∀ a w, At F n st' a w → Q e.x a w) : c.wp P Q a w :=
  wp_mono (h F a w hk hA) fun e' a' w' ⟨h1, h2⟩ => by rw [h1]; exact hQ a' w' h2

set_option maxHeartbeats 1000000 in
theorem runI_sound {K : Handler} (hK : K.ok P) (hmix : P.follows .mixedOrders = true) : ∀ (f : Nat),
    (∀ (ks : List Nat) (c : Code) (n : Nat) (st : St) (nb : Nat) (e : Out) (st' : St) (nb' : Nat), runI P K f ks c n st nb = some (e, st', nb') → RunsK P n ks c st e st') ∧
    (∀ (ks : List Nat) (c : Code) (n : Nat) (st : St) (nb : Nat) (e : Out) (st' : St) (nb' : Nat), runI P K f ks (.loop c) n st nb = some (e, st', nb') → LoopsK P n ks c st e st') := by
  intro f
  induction f with
  | zero => exact ⟨fun ks c n st nb e st' nb' h => (by cases h), fun ks c n st nb e st' nb' h => (by cases h)⟩
  | succ f ih =>
    obtain ⟨ih1, ih2⟩ := ih
    have hH : Handler.ok P (orH K (callH P (runI P K f))) := orH_ok hK (callH_ok ih1)
    have loops : ∀ (ks : List Nat) (c : Code) (n : Nat) (st : St) (nb : Nat) (e : Out) (st' : St) (nb' : Nat), runI P K (f + 1) ks (.loop c) n st nb = some (e, st', nb') → LoopsK P n ks c st e st' := by
      intro ks c n st nb e st' nb' h
      simp only [runI] at h
      cases hb : runI P K f ks c n st nb with
      | none => rw [hb] at h; cases h
      | some r =>
        obtain ⟨e1, s1, n1⟩ := r
        rw [hb] at h
        have hr := ih1 _ _ _ _ _ _ _ _ hb
        cases e1 with
        | normal =>
          simp only at h
          obtain ⟨m, hm⟩ := ih2 _ _ _ _ _ _ _ _ h
          refine ⟨m + 1, fun F a w hk x => ?_⟩
          rw [rounds_succ]
          refine wp_mono (hr F a w hk x) fun e' a' w' hh => ?_
          obtain ⟨h1, h2⟩ := hh
          subst h1
          exact hm F a' w' hk (dropSt_at (fun i b hi => List.mem_append_right _ (hk i b hi)) h2)
        | exit i =>
          injection h with h; simp only [Prod.mk.injEq] at h; obtain ⟨rfl, rfl, rfl⟩ := h
          exact .leave hr (by simp)
        | ret =>
          injection h with h; simp only [Prod.mk.injEq] at h; obtain ⟨rfl, rfl, rfl⟩ := h
          exact .leave hr (by simp)
    refine ⟨?_, loops⟩
    intro ks c n st nb e st' nb' h
    cases c with
    | skip =>
      injection h with h; simp only [Prod.mk.injEq] at h; obtain ⟨rfl, rfl, rfl⟩ := h
      exact fun F a w hk hA => wp_skip ⟨rfl, hA⟩
    | label l =>
      injection h with h; simp only [Prod.mk.injEq] at h; obtain ⟨rfl, rfl, rfl⟩ := h
      exact fun F a w hk hA => wp_label ⟨rfl, hA⟩
    | exit id =>
      injection h with h; simp only [Prod.mk.injEq] at h; obtain ⟨rfl, rfl, rfl⟩ := h
      exact fun F a w hk hA => wp_exit ⟨rfl, hA⟩
    | ret =>
      injection h with h; simp only [Prod.mk.injEq] at h; obtain ⟨rfl, rfl, rfl⟩ := h
      exact fun F a w hk hA => wp_ret ⟨rfl, hA⟩
    | region id ops draw =>
      simp only [runI] at h
      cases hr : regionI P (orH K (callH P (runI P K f))) n ops draw st nb with
      | none => rw [hr] at h; cases h
      | some x =>
        obtain ⟨s, n1⟩ := x
        rw [hr] at h
        injection h with h; simp only [Prod.mk.injEq] at h; obtain ⟨rfl, rfl, rfl⟩ := h
        exact fun F a w hk hA => regionI_sound hH hmix hr (fun a w h => ⟨rfl, h⟩) hA
    | seq x y =>
      simp only [runI] at h
      cases hx : runI P K f ks x n st nb with
      | none => rw [hx] at h; cases h
      | some r =>
        obtain ⟨e1, s1, n1⟩ := r
        rw [hx] at h
        have h1 := ih1 _ _ _ _ _ _ _ _ hx
        cases e1 with
        | normal =>
          simp only at h
          have h2 := ih1 _ _ _ _ _ _ _ _ h
          exact fun F a w hk hA => wp_seq (wp_ofK h1 hk hA fun a' w' hA' => h2 F a' w' hk hA')
        | exit i =>
          injection h with h; simp only [Prod.mk.injEq] at h; obtain ⟨rfl, rfl, rfl⟩ := h
          exact fun F a w hk hA => wp_seq (wp_ofK h1 hk hA fun a' w' hA' => ⟨rfl, hA'⟩)
        | ret =>
          injection h with h; simp only [Prod.mk.injEq] at h; obtain ⟨rfl, rfl, rfl⟩ := h
          exact fun F a w hk hA => wp_seq (wp_ofK h1 hk hA fun a' w' hA' => ⟨rfl, hA'⟩)
    | cond o x y =>
      simp only [runI] at h
      intro F a w hk hA
      obtain ⟨S, β, E, M⟩ := hA
      have hv := evalA_sound E o
      generalize evalA st.env o = X at h hv
      generalize hxx : a.eval o = xv at hv
      cases X with
      | bool b =>
        cases hv with
        | bool b =>
          cases b with
          | true => exact wp_cond_true hxx (ih1 _ _ _ _ _ _ _ _ h F a w hk ⟨S, β, E, M⟩)
          | false => exact wp_cond_false hxx (ih1 _ _ _ _ _ _ _ _ h F a w hk ⟨S, β, E, M⟩)
      | _ => cases h
    | block id body =>
      simp only [runI] at h
      cases hb : runI P K f ks body n st nb with
      | none => rw [hb] at h; cases h
      | some r =>
        obtain ⟨e1, s1, n1⟩ := r
        rw [hb] at h
        have h1 := ih1 _ _ _ _ _ _ _ _ hb
        intro F a w hk hA
        refine wp_block ?_
        cases e1 with
        | exit i =>
          simp only at h
          by_cases hi : i = id
          · rw [if_pos hi] at h
            injection h with h; simp only [Prod.mk.injEq] at h; obtain ⟨rfl, rfl, rfl⟩ := h
            refine wp_ofK h1 hk hA fun a' w' hA' => ?_
            simp only [Out.x, Exit.inBlock, if_pos hi]
            exact ⟨trivial, hA'⟩
          · rw [if_neg hi] at h
            injection h with h; simp only [Prod.mk.injEq] at h; obtain ⟨rfl, rfl, rfl⟩ := h
            refine wp_ofK h1 hk hA fun a' w' hA' => ?_
            simp only [Out.x, Exit.inBlock, if_neg hi]
            exact ⟨trivial, hA'⟩
        | normal =>
          injection h with h; simp only [Prod.mk.injEq] at h; obtain ⟨rfl, rfl, rfl⟩ := h
          exact wp_ofK h1 hk hA fun a' w' hA' => ⟨rfl, hA'⟩
        | ret =>
          injection h with h; simp only [Prod.mk.injEq] at h; obtain ⟨rfl, rfl, rfl⟩ := h
          exact wp_ofK h1 hk hA fun a' w' hA' => ⟨rfl, hA'⟩
    | loop body =>
      obtain ⟨m, hm⟩ := loops ks body n st nb e st' nb' h
      exact fun F a w hk hA => wp_loop_rounds m (hm F a w hk hA)
    | _ => cases h

/-- WHAT A CALL COMES TO, by running it. -/
theorem spec_run {K : Handler} (hK : K.ok P) (hmix : P.follows .mixedOrders = true) {f : Nat} {g : FuncId} {as : List AV} {pre : List (Nat × Ob)} {nb nb' : Nat} {r : AV} {upd : List (Nat × Ob)} (h : callH P (runI P K f) g as pre nb = some (r, upd, nb')) : Spec P g as pre r upd :=
  callH_ok (runI_sound hK hmix f).1 g as pre nb r upd nb' h

end
end Go.Ped
