/-
  The engine, part 16: regions. Their operations one after the other; where the order is drawn: any order does the same.
-/
import Derived.Test.YthhfolohakiemaaGreatDoorEval
import Derived.Orders
set_option linter.unusedVariables false
namespace Go.Ped
open Go.RowKit

/-- The slots and the pieces. -/
structure St where
  env : List (Nat × AV)
  hp : List (Nat × Ob)

def putD (env : List (Nat × AV)) : Option Nat → AV → List (Nat × AV)
  | none, _ => env
  | some d, v => putL env d v

/-- Whether an operation is wanted. -/
def wantA (ops : Array Oper) (o : Oper) (env : List (Nat × AV)) : Option Bool :=
  match o.guard with
  | none => some true
  | some (j, b) => match (ops[j]?).bind (·.dst) with
    | some t => match lookD env t with
      | .bool c => some (c == b)
      | .tup [] => some false
      | _ => none
    | none => none

def stepA (P : Program) (base : Nat) (ops : Array Oper) (o : Oper) (sc : List Dir) (st : St) : Option (Res × List Nat) :=
  match wantA ops o st.env with
  | some true => (evalOp P (base + o.dst.getD 0) o.op (o.op.operands.toList.map (evalA st.env)) sc).run (look st.hp)
  | some false => some ({ v := .tup [], sc := sc }, [])
  | none => none

/-- What an operation did. -/
structure Eff where
  dst : Option Nat
  v : AV
  upd : List (Nat × Ob)
  new : List Nat
  rd : List Nat
  looks : List Nat

def St.ap (st : St) (e : Eff) : St := ⟨putD st.env e.dst e.v, putAll st.hp e.upd⟩

section
variable {P : Program} {ops : Array Oper} {F : Fr} {n base : Nat}

/-- The frame and the world stand for the state. -/
def At (F : Fr) (n : Nat) (st : St) (a : Act) (w : World) : Prop := ∃ S β, Env S β w n st.env a ∧ Mem F S β st.hp w

theorem Mem.drew {S : Blk} {β : Beta} {hp : List (Nat × Ob)} {w : World} (M : Mem F S β hp w) (k : Nat) : Mem F S β hp { w with drawn := k } := by
  have ag : Agr S w { w with drawn := k } := fun _ _ => rfl
  exact ⟨M.tab, M.os, M.tape, M.output, M.size, M.keep, fun id o h => (M.obs id o h).mono (fun _ h => h) (fun _ _ h => h) ag (fun _ _ => rfl), M.dom, M.inj, M.own, M.sub, M.base, M.new, M.giv⟩

theorem At.drew {st : St} {a : Act} {w : World} (h : At F n st a w) (k : Nat) : At F n st a { w with drawn := k } := by
  obtain ⟨S, β, E, M⟩ := h
  have x : Ext S S β β w { w with drawn := k } := ⟨fun _ h => h, fun _ _ h => h, fun _ _ => rfl⟩
  exact ⟨S, β, E.ext x, M.drew k⟩

theorem eval_tmp_some {a : Act} {t : Nat} {v : Value} (h : a.eval (.tmp t) = v) (hv : v ≠ undef) : a.tmps[t]? = some v := by
  simp only [Act.eval, Array.getD_eq_getD_getElem?] at h
  cases hx : a.tmps[t]? with
  | none => rw [hx] at h; exact absurd h.symm hv
  | some u => rw [hx] at h; simp at h; rw [h]

theorem wantA_sound {o : Oper} {S : Blk} {β : Beta} {w : World} {env : List (Nat × AV)} {a : Act} (E : Env S β w n env a) {b : Bool} (h : wantA ops o env = some b) : Region.wanted o (yielded ops a.tmps) = b := by
  unfold wantA at h
  unfold Region.wanted
  cases hg : o.guard with
  | none => rw [hg] at h; injection h
  | some g =>
    obtain ⟨j, want⟩ := g
    rw [hg] at h
    simp only at h ⊢
    cases ht : (ops[j]?).bind (·.dst) with
    | none => rw [ht] at h; cases h
    | some t =>
      rw [ht] at h
      simp only at h
      have hv := E.2.2 t
      generalize hx : a.eval (.tmp t) = x at hv
      generalize lookD env t = y at h hv
      cases y with
      | bool c =>
        injection h with h
        cases hv with
        | bool c =>
          have := eval_tmp_some hx (by simp [undef])
          have hy : yielded ops a.tmps j = some c := by simp [yielded, ht, this]
          rw [hy, ← h]
          cases c <;> cases want <;> rfl
      | tup l =>
        cases l with
        | nil =>
          injection h with h
          subst h
          have hy : yielded ops a.tmps j = none := by
            unfold yielded
            rw [ht]
            simp only [Option.bind_some]
            cases hq : a.tmps[t]? with
            | none => rfl
            | some u =>
              have : x = u := by rw [← hx]; simp [Act.eval, hq]
              subst this
              cases hv with
              | tup vs cs hl h => rfl
          rw [hy]
          rfl
        | cons _ _ => cases h
      | _ => cases h

theorem Env.putD {S : Blk} {β : Beta} {w : World} {env : List (Nat × AV)} {a : Act} (E : Env S β w n env a) {o : Oper} (hd : ∀ d, o.dst = some d → d < n) {v : Value} {x : AV} (hv : V S β w v x) :
    Env S β w n (putD env o.dst x) (a.put o.dst v) := by
  cases h : o.dst with
  | none => exact E
  | some d => exact E.put (hd d h) hv

/-- An operation of a region. -/
theorem stepA_sound {i : Nat} {o : Oper} {sc : List Dir} {st : St} {res : Res} {rd : List Nat} {a : Act} {w : World} (ho : ops[i]? = some o) (hd : ∀ d, o.dst = some d → d < n) (hA : At F n st a w)
    (hs : stepA P base ops o sc st = some (res, rd)) (hc : ∀ c, c ∈ res.cs → c.p) (hn : ∀ id, id ∈ res.new → look st.hp id = none) {K : Act → World → Prop} {Q : Exit → Act → World → Prop}
    (hK : ∀ a' w', At F n ⟨Ped.putD st.env o.dst res.v, putAll st.hp res.upd⟩ a' w' → K a' w') : wpOp P ops Q i K a w := by
  obtain ⟨S, β, E, M⟩ := hA
  unfold wpOp
  rw [ho]
  simp only
  unfold stepA at hs
  cases hw : wantA ops o st.env with
  | none => rw [hw] at hs; cases hs
  | some b =>
    rw [hw] at hs
    rw [wantA_sound E hw]
    cases b with
    | true =>
      rw [if_pos rfl]
      refine .inl (evalOp_sound E M hs hc hn K Q fun v w' S' β' x m hv => hK _ _ ⟨S', β', (E.ext x).putD hd hv, m⟩)
    | false =>
      rw [if_neg (by simp)]
      simp only at hs
      injection hs with hs
      injection hs with hs _
      subst hs
      refine hK _ _ ⟨S, β, E.putD hd (.tup [] [] rfl (by simp)), M⟩

/-! ### States that hold the same -/

structure St.Sim (s t : St) : Prop where
  env : ∀ k, lookD s.env k = lookD t.env k
  hp : ∀ k, look s.hp k = look t.hp k

theorem St.Sim.refl (s : St) : s.Sim s := ⟨fun _ => rfl, fun _ => rfl⟩
theorem St.Sim.trans {s t u : St} (h : s.Sim t) (k : t.Sim u) : s.Sim u := ⟨fun i => (h.env i).trans (k.env i), fun i => (h.hp i).trans (k.hp i)⟩
theorem St.Sim.symm {s t : St} (h : s.Sim t) : t.Sim s := ⟨fun i => (h.env i).symm, fun i => (h.hp i).symm⟩

theorem At.sim {s t : St} (h : s.Sim t) {a : Act} {w : World} (hA : At F n s a w) : At F n t a w := by
  obtain ⟨S, β, E, M⟩ := hA
  refine ⟨S, β, ⟨E.1, E.2.1, fun k => by rw [← h.env k]; exact E.2.2 k⟩, M.tab, M.os, M.tape, M.output, M.size, M.keep, fun id o ho => M.obs id o (by rw [h.hp]; exact ho), fun id bi hb => ?_, fun i j bi bj hi hj h1 h2 => M.inj i j bi bj hi hj (fun o ho => h1 o (by rw [← h.hp]; exact ho)) (fun o ho => h2 o (by rw [← h.hp]; exact ho)), M.own, M.sub, M.base, M.new, M.giv⟩
  obtain ⟨o, ho⟩ := M.dom id bi hb
  exact ⟨o, by rw [← h.hp]; exact ho⟩

theorem lookD_putD (env : List (Nat × AV)) (d : Option Nat) (v : AV) (k : Nat) : lookD (putD env d v) k = if d = some k then v else lookD env k := by
  cases d with
  | none => simp [putD]
  | some d =>
    simp only [putD, lookD, look_put, Option.some.injEq]
    by_cases h : d = k <;> simp [h]

theorem look_putAll_out (upd : List (Nat × Ob)) : ∀ (hp : List (Nat × Ob)) (k : Nat), k ∉ upd.map (·.1) → look (putAll hp upd) k = look hp k := by
  induction upd with
  | nil => intro hp k _; rfl
  | cons x l ih =>
    intro hp k hk
    simp only [List.map_cons, List.mem_cons, not_or] at hk
    show look (putAll (putL hp x.1 x.2) l) k = _
    rw [ih _ _ hk.2, look_put, if_neg (Ne.symm hk.1)]

theorem look_putAll_in (upd : List (Nat × Ob)) : ∀ (hp hq : List (Nat × Ob)) (k : Nat), k ∈ upd.map (·.1) → look (putAll hp upd) k = look (putAll hq upd) k := by
  induction upd with
  | nil => intro hp hq k h; simp at h
  | cons x l ih =>
    intro hp hq k hk
    show look (putAll (putL hp x.1 x.2) l) k = look (putAll (putL hq x.1 x.2) l) k
    by_cases hl : k ∈ l.map (·.1)
    · exact ih _ _ _ hl
    · rw [look_putAll_out _ _ _ hl, look_putAll_out _ _ _ hl, look_put, look_put]
      simp only [List.map_cons, List.mem_cons] at hk
      have : x.1 = k := (hk.resolve_right hl).symm
      rw [if_pos this, if_pos this]

theorem St.Sim.ap {s t : St} (h : s.Sim t) (e : Eff) : (s.ap e).Sim (t.ap e) := by
  refine ⟨fun k => ?_, fun k => ?_⟩
  · simp only [St.ap, lookD_putD, h.env]
  · by_cases hk : k ∈ e.upd.map (·.1)
    · exact look_putAll_in _ _ _ _ hk
    · simp only [St.ap]
      rw [look_putAll_out _ _ _ hk, look_putAll_out _ _ _ hk, h.hp]

/-! ### Two operations that do not meet -/

def meets (e f : Eff) : Bool :=
  (match e.dst with
   | some d => f.looks.contains d || f.dst == some d
   | none => false) || e.upd.any fun x => f.rd.contains x.1 || f.new.contains x.1 || f.upd.any fun y => y.1 == x.1

def apartE (e f : Eff) : Bool := !meets e f && !meets f e

theorem apartE_symm {e f : Eff} (h : apartE e f = true) : apartE f e = true := by
  unfold apartE at *
  rw [Bool.and_comm]
  exact h

theorem not_meets {e f : Eff} (h : meets e f = false) :
    (∀ d, e.dst = some d → d ∉ f.looks ∧ f.dst ≠ some d) ∧ ∀ k, k ∈ e.upd.map (·.1) → k ∉ f.rd ∧ k ∉ f.new ∧ k ∉ f.upd.map (·.1) := by
  unfold meets at h
  rw [Bool.or_eq_false_iff] at h
  obtain ⟨h1, h2⟩ := h
  refine ⟨fun d hd => ?_, fun k hk => ?_⟩
  · rw [hd] at h1
    simpa using h1
  · obtain ⟨x, hx, rfl⟩ := List.mem_map.1 hk
    rw [List.any_eq_false] at h2
    have := h2 x hx
    simp only [Bool.or_eq_true, not_or, List.contains_eq_mem, decide_eq_true_eq] at this
    refine ⟨this.1.1, this.1.2, fun hm => this.2 ?_⟩
    obtain ⟨y, hy, e⟩ := List.mem_map.1 hm
    exact List.any_eq_true.2 ⟨y, hy, by simp [e]⟩

/-- An operation does this at a state. -/
structure OkAt (P : Program) (ops : Array Oper) (st : St) (i : Nat) (e : Eff) : Prop where
  ok : ∃ o base sc res rd, ops[i]? = some o ∧ stepA P base ops o sc st = some (res, rd) ∧ (∀ c, c ∈ res.cs → c.p) ∧ (∀ id, id ∈ res.new → look st.hp id = none) ∧
    e = { dst := o.dst, v := res.v, upd := res.upd, new := res.new, rd := rd, looks := o.looksAt ops }

theorem evalA_congr {env env' : List (Nat × AV)} {x : Operand} (h : ∀ t, x = .tmp t → lookD env' t = lookD env t) : evalA env' x = evalA env x := by
  cases x with
  | tmp t => exact h t rfl
  | _ => rfl

theorem OkAt.congr {st st' : St} {i : Nat} {e : Eff} (h : OkAt P ops st i e) (h1 : ∀ t, t ∈ e.looks → lookD st'.env t = lookD st.env t) (h2 : ∀ k, k ∈ e.rd ∨ k ∈ e.new → look st'.hp k = look st.hp k) :
    OkAt P ops st' i e := by
  obtain ⟨o, base, sc, res, rd, ho, hs, hc, hn, rfl⟩ := h.ok
  refine ⟨o, base, sc, res, rd, ho, ?_, hc, fun id hi => (h2 id (.inr hi)).trans (hn id hi), rfl⟩
  have hops : o.op.operands.toList.map (evalA st'.env) = o.op.operands.toList.map (evalA st.env) := by
    refine List.map_congr_left fun x hx => evalA_congr fun t ht => h1 t ?_
    subst ht
    exact List.mem_append_left _ (List.mem_filterMap.2 ⟨.tmp t, hx, rfl⟩)
  have hwant : wantA ops o st'.env = wantA ops o st.env := by
    unfold wantA
    cases hg : o.guard with
    | none => rfl
    | some g =>
      obtain ⟨j, b⟩ := g
      simp only
      cases ht : (ops[j]?).bind (·.dst) with
      | none => rfl
      | some t =>
        simp only
        rw [h1 t (List.mem_append_right _ (by simp [hg, ht]))]
  unfold stepA at hs ⊢
  rw [hwant, hops]
  cases hw : wantA ops o st.env with
  | none => rw [hw] at hs; cases hs
  | some b =>
    rw [hw] at hs
    cases b with
    | true => exact Rd.run_local hs fun id hi => h2 id (.inl hi)
    | false => exact hs

theorem OkAt.sim {s t : St} (h : s.Sim t) {i : Nat} {e : Eff} (ho : OkAt P ops s i e) : OkAt P ops t i e :=
  ho.congr (fun k _ => (h.env k).symm) (fun k _ => (h.hp k).symm)

/-- What does not meet it neither comes before nor after it. -/
theorem ap_env {st : St} {e f : Eff} (h : meets f e = false) : (∀ t, t ∈ e.looks → lookD (st.ap f).env t = lookD st.env t) ∧ ∀ k, k ∈ e.rd ∨ k ∈ e.new → look (st.ap f).hp k = look st.hp k := by
  obtain ⟨h1, h2⟩ := not_meets h
  refine ⟨fun t ht => ?_, fun k hk => ?_⟩
  · simp only [St.ap, lookD_putD]
    rw [if_neg (fun e => (h1 t e).1 ht)]
  · refine look_putAll_out _ _ _ fun hm => ?_
    obtain ⟨a, b, _⟩ := h2 k hm
    rcases hk with hk | hk
    · exact a hk
    · exact b hk

theorem OkAt.past {st : St} {i : Nat} {e f : Eff} (h : apartE e f = true) (ho : OkAt P ops (st.ap f) i e) : OkAt P ops st i e := by
  have hm : meets f e = false := by unfold apartE at h; simp at h; exact h.2
  obtain ⟨h1, h2⟩ := ap_env (st := st) hm
  exact ho.congr (fun t ht => (h1 t ht).symm) (fun k hk => (h2 k hk).symm)

theorem OkAt.upto {st : St} {i : Nat} {e f : Eff} (h : apartE e f = true) (ho : OkAt P ops st i e) : OkAt P ops (st.ap f) i e := by
  have hm : meets f e = false := by unfold apartE at h; simp at h; exact h.2
  obtain ⟨h1, h2⟩ := ap_env (st := st) hm
  exact ho.congr h1 h2

theorem ap_comm {st : St} {e f : Eff} (h : apartE e f = true) : ((st.ap e).ap f).Sim ((st.ap f).ap e) := by
  have hm1 : meets e f = false := by unfold apartE at h; simp at h; exact h.1
  have hm2 : meets f e = false := by unfold apartE at h; simp at h; exact h.2
  obtain ⟨a1, a2⟩ := not_meets hm1
  obtain ⟨b1, b2⟩ := not_meets hm2
  refine ⟨fun k => ?_, fun k => ?_⟩
  · simp only [St.ap, lookD_putD]
    by_cases h1 : f.dst = some k
    · rw [if_pos h1, if_neg (fun h2 => (a1 k h2).2 h1), if_pos h1]
    · rw [if_neg h1, if_neg h1]
  · simp only [St.ap]
    by_cases h1 : k ∈ f.upd.map (·.1)
    · rw [look_putAll_out e.upd _ _ (fun h2 => (a2 k h2).2.2 h1)]
      exact look_putAll_in _ _ _ _ h1
    · rw [look_putAll_out f.upd _ _ h1]
      by_cases h2 : k ∈ e.upd.map (·.1)
      · exact look_putAll_in _ _ _ _ h2
      · rw [look_putAll_out _ _ _ h2, look_putAll_out _ _ _ h2, look_putAll_out _ _ _ h1]

/-! ### All operations of a region -/

def Chain (P : Program) (ops : Array Oper) : St → List (Nat × Eff) → Prop
  | _, [] => True
  | st, x :: r => OkAt P ops st x.1 x.2 ∧ Chain P ops (st.ap x.2) r

def apAll (st : St) (R : List (Nat × Eff)) : St := R.foldl (fun s x => s.ap x.2) st

theorem Chain.sim : ∀ {R : List (Nat × Eff)} {s t : St}, s.Sim t → Chain P ops s R → Chain P ops t R
  | [], _, _, _, _ => trivial
  | _ :: _, _, _, h, ⟨a, b⟩ => ⟨a.sim h, Chain.sim (h.ap _) b⟩

theorem apAll_sim : ∀ {R : List (Nat × Eff)} {s t : St}, s.Sim t → (apAll s R).Sim (apAll t R)
  | [], _, _, h => h
  | x :: R, _, _, h => apAll_sim (R := R) (h.ap x.2)

/-- One out of the middle that meets none of those ahead of it comes first. -/
theorem Chain.pull {x : Nat × Eff} {B : List (Nat × Eff)} : ∀ {A : List (Nat × Eff)} {st : St}, (∀ y, y ∈ A → apartE x.2 y.2 = true) → Chain P ops st (A ++ x :: B) →
    OkAt P ops st x.1 x.2 ∧ Chain P ops (st.ap x.2) (A ++ B) ∧ (apAll (st.ap x.2) (A ++ B)).Sim (apAll st (A ++ x :: B))
  | [], st, _, ⟨a, b⟩ => ⟨a, b, .refl _⟩
  | y :: A, st, h, ⟨a, b⟩ => by
    have hy := h y (by simp)
    obtain ⟨c1, c2, c3⟩ := Chain.pull (A := A) (fun z hz => h z (by simp [hz])) b
    have cm := ap_comm (st := st) hy
    refine ⟨c1.past hy, ⟨a.upto (apartE_symm hy), c2.sim cm.symm⟩, ?_⟩
    show (apAll ((st.ap x.2).ap y.2) (A ++ B)).Sim _
    exact (apAll_sim cm).trans c3

/-- The operations in their order. -/
def runOps (P : Program) (base : Nat) (ops : Array Oper) : List Oper → List Dir → St → Option (St × List Cond × List Dir × List Eff)
  | [], sc, st => some (st, [], sc, [])
  | o :: r, sc, st => match stepA P base ops o sc st with
    | some (res, rd) =>
      if res.new.all (fun id => (look st.hp id).isNone) then
        match runOps P base ops r res.sc ⟨putD st.env o.dst res.v, putAll st.hp res.upd⟩ with
        | some (st', cs, sc', es) => some (st', res.cs ++ cs, sc', { dst := o.dst, v := res.v, upd := res.upd, new := res.new, rd := rd, looks := o.looksAt ops } :: es)
        | none => none
      else none
    | none => none

theorem runOps_chain : ∀ {l : List Oper} {k : Nat} {sc sc' : List Dir} {st st' : St} {cs : List Cond} {es : List Eff}, (∀ i o, l[i]? = some o → ops[k + i]? = some o) → runOps P base ops l sc st = some (st', cs, sc', es) → (∀ c, c ∈ cs → c.p) →
    es.length = l.length ∧ Chain P ops st ((List.range' k es.length).zip es) ∧ apAll st ((List.range' k es.length).zip es) = st' := by
  intro l
  induction l with
  | nil =>
    intro k sc sc' st st' cs es _ h hc
    simp only [runOps] at h
    injection h with h
    simp only [Prod.mk.injEq] at h
    obtain ⟨h1, h2, h3, h4⟩ := h
    subst h1; subst h4
    exact ⟨rfl, trivial, rfl⟩
  | cons o r ih =>
    intro k sc sc' st st' cs es ho h hc
    simp only [runOps] at h
    cases hs : stepA P base ops o sc st with
    | none => rw [hs] at h; cases h
    | some x =>
      obtain ⟨res, rd⟩ := x
      rw [hs] at h
      simp only at h
      split at h
      · rename_i hnew
        cases hr : runOps P base ops r res.sc ⟨putD st.env o.dst res.v, putAll st.hp res.upd⟩ with
        | none => rw [hr] at h; cases h
        | some y =>
          obtain ⟨s2, c2, d2, e2⟩ := y
          rw [hr] at h
          injection h with h
          simp only [Prod.mk.injEq] at h
          obtain ⟨h1, h2, h3, h4⟩ := h
          subst h1; subst h2; subst h4
          obtain ⟨i1, i2, i3⟩ := ih (k := k + 1) (fun i o' hi => by have := ho (i + 1) o' (by simpa using hi); rw [← this]; congr 1; omega) hr (fun c hcc => hc c (by simp [hcc]))
          refine ⟨by simp [i1], ?_, ?_⟩
          · simp only [List.length_cons, List.range'_succ, List.zip_cons_cons]
            refine ⟨⟨o, base, sc, res, rd, ho 0 o rfl, hs, fun c hcc => hc c (by simp [hcc]), fun id hid => ?_, rfl⟩, i2⟩
            have := List.all_eq_true.1 hnew id hid
            simpa using this
          · simp only [List.length_cons, List.range'_succ, List.zip_cons_cons]
            exact i3
      · cases h

/-- Which operations come before an operation, by the edges: a mask for each. -/
def masks (md : Region.Mode) : List Oper → List Nat → Option (List Nat)
  | [], done => some done
  | o :: r, done =>
    match (o.after.toList.filter (Region.binds md)).foldlM (fun m e => (done[e.on]?).map fun d => m ||| d ||| (1 <<< e.on)) 0 with
    | some m => masks md r (done ++ [m])
    | none => none

/-- Any two operations are in order, or do not meet. -/
def pairsOK (es : List Eff) (ms : List Nat) : Bool :=
  (List.range es.length).all fun j => match es[j]?, ms[j]? with
    | some f, some m => (List.range j).all fun i => match es[i]? with
      | some e => m.testBit i || apartE f e
      | none => false
    | _, _ => false

/-- What the masks say. -/
structure Masks (md : Region.Mode) (ops : Array Oper) (ms : List Nat) : Prop where
  len : ms.length = ops.size
  back : ∀ (j : Nat) (o : Oper) (e : Edge), ops[j]? = some o → e ∈ o.after → Region.binds md e = true → e.on < j
  bits : ∀ (j : Nat) (o : Oper) (m i : Nat), ops[j]? = some o → ms[j]? = some m → m.testBit i = true → ∃ e, e ∈ o.after ∧ Region.binds md e = true ∧ (i = e.on ∨ ∃ d, ms[e.on]? = some d ∧ d.testBit i = true)

theorem foldlM_masks {done : List Nat} : ∀ {l : List Edge} {m0 m : Nat}, l.foldlM (fun m e => (done[e.on]?).map fun d => m ||| d ||| (1 <<< e.on)) m0 = some m →
    (∀ e, e ∈ l → e.on < done.length) ∧ ∀ i, m.testBit i = true → m0.testBit i = true ∨ ∃ e, e ∈ l ∧ (i = e.on ∨ ∃ d, done[e.on]? = some d ∧ d.testBit i = true) := by
  intro l
  induction l with
  | nil => intro m0 m h; injection h with h; subst h; exact ⟨by simp, fun i hi => .inl hi⟩
  | cons e r ih =>
    intro m0 m h
    rw [List.foldlM_cons] at h
    cases hd : done[e.on]? with
    | none => rw [hd] at h; cases h
    | some d =>
      rw [hd] at h
      obtain ⟨h1, h2⟩ := ih (m0 := m0 ||| d ||| (1 <<< e.on)) h
      refine ⟨fun x hx => ?_, fun i hi => ?_⟩
      · rcases List.mem_cons.1 hx with rfl | hx
        · exact (List.getElem?_eq_some_iff.1 hd).1
        · exact h1 x hx
      · rcases h2 i hi with h | ⟨x, hx, hxi⟩
        · rw [Nat.testBit_or, Nat.testBit_or, Bool.or_eq_true, Bool.or_eq_true] at h
          rcases h with (h | h) | h
          · exact .inl h
          · exact .inr ⟨e, by simp, .inr ⟨d, hd, h⟩⟩
          · refine .inr ⟨e, by simp, .inl ?_⟩
            rw [Nat.one_shiftLeft, Nat.testBit_two_pow] at h
            simp at h
            exact h.symm
        · exact .inr ⟨x, by simp [hx], hxi⟩

theorem masks_spec {md : Region.Mode} : ∀ {l : List Oper} {done ms : List Nat}, masks md l done = some ms →
    ms.length = done.length + l.length ∧ (∀ i, i < done.length → ms[i]? = done[i]?) ∧
    ∀ (i : Nat) (o : Oper) (m : Nat), l[i]? = some o → ms[done.length + i]? = some m → (∀ e, e ∈ o.after → Region.binds md e = true → e.on < done.length + i) ∧
      ∀ b, m.testBit b = true → ∃ e, e ∈ o.after ∧ Region.binds md e = true ∧ (b = e.on ∨ ∃ d, ms[e.on]? = some d ∧ d.testBit b = true) := by
  intro l
  induction l with
  | nil =>
    intro done ms h
    injection h with h
    subst h
    exact ⟨rfl, fun i _ => rfl, fun i o m h => by simp at h⟩
  | cons o r ih =>
    intro done ms h
    simp only [masks] at h
    cases hm : (o.after.toList.filter (Region.binds md)).foldlM (fun m e => (done[e.on]?).map fun d => m ||| d ||| (1 <<< e.on)) 0 with
    | none => rw [hm] at h; cases h
    | some m0 =>
      rw [hm] at h
      obtain ⟨h1, h2, h3⟩ := ih h
      obtain ⟨g1, g2⟩ := foldlM_masks hm
      refine ⟨by simp at h1 ⊢; omega, fun i hi => ?_, fun i o' m hi hmi => ?_⟩
      · rw [h2 i (by simp; omega), List.getElem?_append_left hi]
      · cases i with
        | zero =>
          simp at hi
          subst hi
          rw [Nat.add_zero, h2 done.length (by simp)] at hmi
          simp at hmi
          subst hmi
          refine ⟨fun e he hb => g1 e (List.mem_filter.2 ⟨by simpa using he, hb⟩), fun b hb => ?_⟩
          rcases g2 b hb with h0 | ⟨e, he, hbe⟩
          · simp at h0
          · obtain ⟨he1, he2⟩ := List.mem_filter.1 he
            refine ⟨e, by simpa using he1, he2, hbe.imp id ?_⟩
            rintro ⟨d, hd, hdb⟩
            have hlt := (List.getElem?_eq_some_iff.1 hd).1
            exact ⟨d, by rw [h2 _ (by simp; omega), List.getElem?_append_left hlt]; exact hd, hdb⟩
        | succ i =>
          have hlen : (done ++ [m0]).length + i = done.length + (i + 1) := by simp; omega
          have := h3 i o' m (by simpa using hi) (by rw [hlen]; exact hmi)
          rw [hlen] at this
          exact this

theorem masks_ok {md : Region.Mode} {ms : List Nat} (h : masks md ops.toList [] = some ms) : Masks md ops ms := by
  obtain ⟨h1, _, h3⟩ := masks_spec h
  have hsz : ms.length = ops.size := by simpa using h1
  have go : ∀ (j : Nat) o, ops[j]? = some o → ∃ m, ms[j]? = some m ∧ (∀ e, e ∈ o.after → Region.binds md e = true → e.on < j) ∧ ∀ b, m.testBit b = true → ∃ e, e ∈ o.after ∧ Region.binds md e = true ∧ (b = e.on ∨ ∃ d, ms[e.on]? = some d ∧ d.testBit b = true) := by
    intro j o ho
    have hj : j < ops.size := (Array.getElem?_eq_some_iff.1 ho).1
    have hm : ms[j]? = some (ms[j]'(by omega)) := List.getElem?_eq_getElem (by omega)
    have := h3 j o (ms[j]'(by omega)) (by simpa using ho) (by simp only [List.length_nil, Nat.zero_add]; exact hm)
    simp only [List.length_nil, Nat.zero_add] at this
    exact ⟨_, hm, this.1, this.2⟩
  refine ⟨hsz, fun j o e ho he hb => ?_, fun j o m i ho hm hi => ?_⟩
  · obtain ⟨m, _, g, _⟩ := go j o ho
    exact g e he hb
  · obtain ⟨m', hm', _, g⟩ := go j o ho
    rw [hm] at hm'
    injection hm' with hm'
    subst hm'
    exact g i hi

/-- Whatever comes before a listed operation is listed. -/
def Down (md : Region.Mode) (ops : Array Oper) (listed : Array Bool) : Prop :=
  ∀ (j : Nat) (o : Oper), ops[j]? = some o → listed.getD j false = true → ∀ e, e ∈ o.after → Region.binds md e = true → listed.getD e.on false = true

theorem Masks.listed {md : Region.Mode} {ms : List Nat} (hM : Masks md ops ms) {listed : Array Bool} (hD : Down md ops listed) :
    ∀ (j : Nat) o m, ops[j]? = some o → ms[j]? = some m → (∀ e, e ∈ o.after → Region.binds md e = true → listed.getD e.on false = true) → ∀ i, m.testBit i = true → listed.getD i false = true := by
  intro j
  induction j using Nat.strongRecOn with
  | _ j ih =>
    intro o m ho hm hp i hi
    obtain ⟨e, he, hb, h⟩ := hM.bits j o m i ho hm hi
    rcases h with rfl | ⟨d, hd, hdi⟩
    · exact hp e he hb
    · have hlt := hM.back j o e ho he hb
      have hj : j < ops.size := (Array.getElem?_eq_some_iff.1 ho).1
      have ho' : ops[e.on]? = some ops[e.on] := Array.getElem?_eq_getElem (by omega)
      exact ih e.on hlt _ d ho' hd (fun e' he' hb' => hD e.on _ ho' (hp e he hb) e' he' hb') i hdi

theorem any_sound {md : Region.Mode} {ms : List Nat} {Q : Exit → Act → World → Prop} (hM : Masks md ops ms) (hd : ∀ (i : Nat) o d, ops[i]? = some o → o.dst = some d → d < n) (fin : St) (hQ : ∀ a w, At F n fin a w → Q .normal a w) :
    ∀ (R : List (Nat × Eff)) (listed : Array Bool) (st : St) (a : Act) (w : World), listed.size = ops.size → Down md ops listed → R.Pairwise (fun x y => x.1 < y.1 ∧ (∀ m, ms[y.1]? = some m → m.testBit x.1 = true ∨ apartE y.2 x.2 = true)) →
      (∀ i, i < ops.size → (listed.getD i true = false ↔ i ∈ R.map (·.1))) → (∀ i, i ∈ R.map (·.1) → i < ops.size) → Chain P ops st R → (apAll st R).Sim fin → At F n st a w → wpAny P md ops Q R.length listed a w := by
  intro R
  generalize hlen : R.length = k
  induction k generalizing R with
  | zero =>
    intro listed st a w hs hD hP hR hlt hC hf hA
    have hnil : R = [] := List.length_eq_zero_iff.1 hlen
    subst hnil
    refine ⟨?_, hQ a w (hA.sim hf)⟩
    unfold Region.ready
    rw [List.filter_eq_nil_iff]
    intro i hi
    have hi := List.mem_range.1 hi
    have hno : listed.getD i true = true := by
      cases h : listed.getD i true with
      | true => rfl
      | false => have := (hR i hi).1 h; simp at this
    rw [hno]
    simp
  | succ k ih =>
    intro listed st a w hs hD hP hR hlt hC hf hA
    refine ⟨fun hre => ?_, fun i hi => ?_⟩
    · exfalso
      cases R with
      | nil => simp at hlen
      | cons x R =>
        have hx : x.1 < ops.size := hlt x.1 (by simp)
        have hmem : x.1 ∈ Region.ready md ops listed := by
          refine mem_ready.2 ⟨(hR x.1 hx).2 (by simp), ops[x.1], Array.getElem?_eq_getElem hx, fun e he hb => ?_⟩
          have hbk := hM.back x.1 _ e (Array.getElem?_eq_getElem hx) he hb
          have hT : listed.getD e.on true = true := by
            cases h : listed.getD e.on true with
            | true => rfl
            | false =>
              have hm := (hR e.on (by omega)).1 h
              rcases List.mem_map.1 hm with ⟨y, hy, hye⟩
              rcases List.mem_cons.1 hy with rfl | hy
              · omega
              · have := (List.pairwise_cons.1 hP).1 y hy
                omega
          have hsz : e.on < listed.size := by omega
          simpa [hsz] using hT
        rw [hre] at hmem
        simp at hmem
    · obtain ⟨h0, o, ho, hpre⟩ := mem_ready.1 hi
      have hio : i < ops.size := (Array.getElem?_eq_some_iff.1 ho).1
      have him := (hR i hio).1 h0
      obtain ⟨x, hx, rfl⟩ := List.mem_map.1 him
      obtain ⟨A, B, rfl⟩ := List.append_of_mem hx
      have hm : ms[x.1]? = some (ms[x.1]'(by rw [hM.len]; exact hio)) := List.getElem?_eq_getElem _
      have hAp : ∀ y, y ∈ A → apartE x.2 y.2 = true := by
        intro y hy
        have hp := (List.pairwise_append.1 hP).2.2 y hy x (by simp)
        rcases hp.2 _ hm with hb | hb
        · exfalso
          have hl := hM.listed hD x.1 o _ ho hm hpre y.1 hb
          have hylt := hlt y.1 (List.mem_map.2 ⟨y, by simp [hy], rfl⟩)
          have hyl := (hR y.1 hylt).2 (List.mem_map.2 ⟨y, by simp [hy], rfl⟩)
          have hsz : y.1 < listed.size := by omega
          simp [hsz] at hl hyl
          rw [hl] at hyl
          cases hyl
        · exact hb
      obtain ⟨c1, c2, c3⟩ := Chain.pull hAp hC
      obtain ⟨o', base, sc, res, rd, ho', hst, hcs, hnew, he⟩ := c1.ok
      refine stepA_sound ho' (fun d hdd => hd x.1 o' d ho' hdd) hA hst hcs hnew fun a' w' hA' => ?_
      have hap : st.ap x.2 = ⟨putD st.env o'.dst res.v, putAll st.hp res.upd⟩ := by rw [he]; rfl
      have hnd : ∀ y, y ∈ A ++ B → y.1 ≠ x.1 := by
        intro y hy
        rcases List.mem_append.1 hy with hy | hy
        · have := (List.pairwise_append.1 hP).2.2 y hy x (by simp); omega
        · have := (List.pairwise_cons.1 (List.pairwise_append.1 hP).2.1).1 y hy; omega
      refine ih (A ++ B) (by simp at hlen ⊢; omega) _ (st.ap x.2) a' w' (by simpa using hs) ?_ ?_ ?_ ?_ c2 (c3.trans hf) (by rw [hap]; exact hA')
      · intro j oj hoj hj e he hb
        by_cases hjx : j = x.1
        · subst hjx
          rw [ho] at hoj
          injection hoj with hoj
          subst hoj
          exact getD_set_true (hpre e he hb)
        · have : listed.getD j false = true := by rw [← getD_set_ne false (Ne.symm hjx)]; exact hj
          exact getD_set_true (hD j oj hoj this e he hb)
      · refine List.Pairwise.sublist ?_ hP
        exact List.Sublist.append (List.Sublist.refl A) (List.sublist_cons_self x B)
      · intro j hj
        by_cases hjx : j = x.1
        · subst hjx
          have hsz : x.1 < listed.size := by omega
          constructor
          · intro h; simp [hsz] at h
          · intro h
            obtain ⟨y, hy, e⟩ := List.mem_map.1 h
            exact absurd e (hnd y hy)
        · rw [getD_set_ne true (Ne.symm hjx), hR j hj]
          simp only [List.map_append, List.map_cons, List.mem_append, List.mem_cons]
          constructor
          · rintro (h | h | h)
            · exact .inl h
            · exact absurd h hjx
            · exact .inr h
          · rintro (h | h)
            · exact .inl h
            · exact .inr (.inr h)
      · intro j hj
        refine hlt j ?_
        simp only [List.map_append, List.map_cons, List.mem_append, List.mem_cons] at hj ⊢
        rcases hj with h | h
        · exact .inl h
        · exact .inr (.inr h)

theorem pairs_spec {es : List Eff} {ms : List Nat} (h : pairsOK es ms = true) :
    ((List.range' 0 es.length).zip es).Pairwise (fun x y => x.1 < y.1 ∧ (∀ m, ms[y.1]? = some m → m.testBit x.1 = true ∨ apartE y.2 x.2 = true)) := by
  rw [List.pairwise_iff_getElem]
  intro i j hi hj hij
  simp only [List.length_zip, List.length_range', Nat.min_self] at hi hj
  simp only [List.getElem_zip, List.getElem_range', Nat.one_mul, Nat.zero_add]
  refine ⟨hij, fun m hm => ?_⟩
  unfold pairsOK at h
  rw [List.all_eq_true] at h
  have h1 := h j (List.mem_range.2 hj)
  rw [List.getElem?_eq_getElem hj, hm] at h1
  simp only [List.all_eq_true] at h1
  have h2 := h1 i (List.mem_range.2 hij)
  rw [List.getElem?_eq_getElem hi] at h2
  simp only [Bool.or_eq_true] at h2
  exact h2

def dstsIn (n : Nat) (ops : Array Oper) : Bool := ops.toList.all fun o => match o.dst with
  | some d => Nat.blt d n
  | none => true

theorem dstsIn_spec {n : Nat} (h : dstsIn n ops = true) : ∀ (i : Nat) o d, ops[i]? = some o → o.dst = some d → d < n := by
  intro i o d ho hd
  have := List.all_eq_true.1 h o (by rw [Array.mem_toList_iff]; exact Array.mem_of_getElem? ho)
  rw [hd] at this
  simpa using this

/-- A region. -/
def regionA (P : Program) (n base : Nat) (ops : Array Oper) (draw : Bool) (sc : List Dir) (st : St) : Option (St × List Cond × List Dir) :=
  if dstsIn n ops then
    match runOps P base ops ops.toList sc st with
    | some (st', cs, sc', es) => match draw with
      | false => some (st', cs, sc')
      | true => match masks .any ops.toList [] with
        | some ms => if pairsOK es ms then some (st', cs, sc') else none
        | none => none
    | none => none
  else none

theorem chain_ordered {Q : Exit → Act → World → Prop} (hd : ∀ (i : Nat) o d, ops[i]? = some o → o.dst = some d → d < n) : ∀ (R : List (Nat × Eff)) (st : St) (a : Act) (w : World), Chain P ops st R → (∀ a w, At F n (apAll st R) a w → Q .normal a w) → At F n st a w → wpOps P ops Q (R.map (·.1)) a w
  | [], st, a, w, _, hQ, hA => hQ a w hA
  | x :: R, st, a, w, ⟨c, hC⟩, hQ, hA => by
    obtain ⟨o, base, sc, res, rd, ho, hs, hc, hn, he⟩ := c.ok
    rw [List.map_cons, wpOps_cons]
    refine stepA_sound ho (fun d h => hd x.1 o d ho h) hA hs hc hn fun a' w' hA' => ?_
    have hap : st.ap x.2 = ⟨putD st.env o.dst res.v, putAll st.hp res.upd⟩ := by rw [he]; rfl
    exact chain_ordered hd R (st.ap x.2) a' w' hC hQ (by rw [hap]; exact hA')

theorem region_sound {id : Nat} {draw : Bool} {sc sc' : List Dir} {st st' : St} {cs : List Cond} {Q : Exit → Act → World → Prop} {a : Act} {w : World} (hmix : P.follows .mixedOrders = true)
    (h : regionA P n base ops draw sc st = some (st', cs, sc')) (hc : ∀ c, c ∈ cs → c.p) (hQ : ∀ a w, At F n st' a w → Q .normal a w) (hA : At F n st a w) : (Code.region id ops draw).wp P Q a w := by
  unfold regionA at h
  split at h
  · rename_i hdst
    have hd := dstsIn_spec hdst
    cases hr : runOps P base ops ops.toList sc st with
    | none => rw [hr] at h; cases h
    | some x =>
      obtain ⟨s, c, d, es⟩ := x
      rw [hr] at h
      simp only at h
      cases draw with
      | false =>
        simp only at h
        injection h with h
        simp only [Prod.mk.injEq] at h
        obtain ⟨h1, h2, h3⟩ := h
        subst h1; subst h2
        obtain ⟨l1, l2, l3⟩ := runOps_chain (k := 0) (fun i o hi => by simpa using hi) hr hc
        refine wp_region ?_
        have hm : ((List.range' 0 es.length).zip es).map (·.1) = List.range ops.size := by
          rw [List.map_fst_zip (by simp), List.range_eq_range', l1]
          simp
        rw [← hm]
        exact chain_ordered hd _ st a w l2 (by rw [l3]; exact hQ) hA
      | true =>
        cases hm : masks .any ops.toList [] with
        | none => rw [hm] at h; cases h
        | some ms =>
          rw [hm] at h
          simp only at h
          split at h
          · rename_i hp
            injection h with h
            simp only [Prod.mk.injEq] at h
            obtain ⟨h1, h2, h3⟩ := h
            subst h1; subst h2
            obtain ⟨l1, l2, l3⟩ := runOps_chain (k := 0) (fun i o hi => by simpa using hi) hr hc
            refine wp_region_any hmix ?_
            have hsz : ((List.range' 0 es.length).zip es).length = ops.size := by simp [l1]
            have hmap : ((List.range' 0 es.length).zip es).map (·.1) = List.range ops.size := by
              rw [List.map_fst_zip (by simp), List.range_eq_range', l1]
              simp
            rw [← hsz]
            refine any_sound (masks_ok hm) hd s hQ _ _ st a _ (by simp [hsz]) ?_ (pairs_spec hp) ?_ ?_ l2 (by rw [l3]; exact .refl _) (hA.drew _)
            · intro j o hj hl
              rw [Array.getD_eq_getD_getElem?, Array.getElem?_replicate] at hl
              split at hl <;> simp at hl
            · intro i hi
              rw [hmap]
              simp only [List.mem_range, hi, iff_true]
              rw [Array.getD_eq_getD_getElem?, Array.getElem?_replicate]
              simp [l1, hi]
            · intro i hi
              rw [hmap] at hi
              exact List.mem_range.1 hi
          · cases h
  · cases h

end
end Go.Ped
