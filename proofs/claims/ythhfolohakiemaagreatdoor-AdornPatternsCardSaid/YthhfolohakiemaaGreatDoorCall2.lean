/-
  The engine, part 20b: a function's contract out of its body, second kind: it is told of pieces of its caller's, and may hand back pieces of its own.
-/
import Derived.Test.YthhfolohakiemaaGreatDoorCall
set_option linter.unusedVariables false
namespace Go.Ped
open Go.RowKit

/-- Every number keeps. -/
def idT (pre : List (Nat × Ob)) : List (Nat × Rn) := pre.map fun x => (x.1, .keep x.1)

theorem look_idT : ∀ {pre : List (Nat × Ob)} {id : Nat} {x : Rn}, look (idT pre) id = some x → x = .keep id ∧ ∃ o, look pre id = some o
  | [], id, x, h => by cases h
  | (i, o) :: r, id, x, h => by
    simp only [idT, List.map_cons, look] at h
    simp only [look]
    by_cases e : i = id
    · rw [if_pos e] at h ⊢; injection h with h; subst e; exact ⟨h.symm, o, rfl⟩
    · rw [if_neg e] at h ⊢; exact look_idT (pre := r) h

mutual
theorem renC_id (pre : List (Nat × Ob)) : ∀ (x : AV), renC (idT pre) x = []
  | .agg cs => renCL_id pre cs
  | .tup cs => renCL_id pre cs
  | .clo f a b => by simp only [renC]; rw [renCL_id pre a, renCL_id pre b]; rfl
  | .iface t v => renC_id pre v
  | .row id off len => by
    simp only [renC]
    cases h : look (idT pre) id with
    | none => rfl
    | some x => obtain ⟨e, _⟩ := look_idT h; subst e; rfl
  | .elt _ _ _ => rfl
  | .map _ => rfl
  | .int _ _ => rfl
  | .bool _ => rfl
  | .str _ => rfl
  | .seq _ _ => rfl
  | .tptr _ => rfl
  | .nilp => rfl
  | .tmap _ _ => rfl
  | .nilmap => rfl
  | .nils => rfl
  | .nilf => rfl
  | .nili => rfl
  | .dead => rfl
theorem renCL_id (pre : List (Nat × Ob)) : ∀ (l : List AV), renCL (idT pre) l = []
  | [] => rfl
  | x :: r => by simp only [renCL]; rw [renC_id pre x, renCL_id pre r]; rfl
end

theorem obC_id (pre : List (Nat × Ob)) (o : Ob) : obC (idT pre) o = [] := by
  cases o with
  | var cs => exact renCL_id pre cs
  | row sz es => exact renCL_id pre es
  | map ks vs => simp only [obC]; rw [renCL_id, renCL_id]; rfl
  | dead => rfl

/-- No number twice. -/
def uniqK : List (Nat × Ob) → Bool
  | [] => true
  | (i, _) :: r => r.all (fun x => !Nat.beq x.1 i) && uniqK r

theorem look_putAll : ∀ {upd : List (Nat × Ob)}, uniqK upd = true → ∀ (hp : List (Nat × Ob)) (k : Nat), look (putAll hp upd) k = match look upd k with
    | some o => some o
    | none => look hp k
  | [], _, hp, k => rfl
  | (i, o) :: r, h, hp, k => by
    simp only [uniqK, Bool.and_eq_true] at h
    show look (putAll (putL hp i o) r) k = _
    rw [look_putAll h.2, look_put]
    simp only [look]
    by_cases e : i = k
    · subst e
      have : look r i = none := by
        cases hl : look r i with
        | none => rfl
        | some y =>
          obtain ⟨z, hz⟩ := look_key hl
          have := List.all_eq_true.1 h.1 _ hz
          simp at this
      rw [this, if_pos rfl]
      simp
    · rw [if_neg e, if_neg e]

/-- The same as 'Runs', under a call that is told of these pieces alone. -/
def RunsK (P : Program) (n : Nat) (ks : List Nat) (c : Code) (st : St) (e : Out) (st' : St) : Prop :=
  ∀ (F : Fr) (a : Act) (w : World), (∀ i b, F.β0 i = some b → i ∈ ks) → At F n st a w → c.wp P (fun e' a' w' => e' = e.x ∧ At F n st' a' w') a w

theorem Runs.k {P : Program} {n : Nat} {ks : List Nat} {c : Code} {st st' : St} {e : Out} (h : Runs P n c st e st') : RunsK P n ks c st e st' := fun F a w _ hA => h F a w hA

/-- What is handed to a callee: the caller's numbers, living pieces, told whole. -/
def preOK (pre : List (Nat × Ob)) : Bool := pre.all fun x => Nat.ble given x.1 && !isDeadOb x.2

section
variable {P : Program} {F : Fr} {S : Blk} {β : Beta} {hp : List (Nat × Ob)} {w : World}

theorem look_mem {α : Type} : ∀ {l : List (Nat × α)} {k : Nat} {x : α}, look l k = some x → (k, x) ∈ l
  | (i, y) :: r, k, x, h => by
    simp only [look] at h
    by_cases e : i = k
    · subst e; rw [if_pos rfl] at h; injection h with h; subst h; simp
    · rw [if_neg e] at h; exact List.mem_cons_of_mem _ (look_mem h)

theorem Spec.gen {f : FuncId} {fn : Func} {c : Code} {args : List AV} {pre : List (Nat × Ob)} {st' : St} {e : Out} {r : AV} (hf : P.funcs[f]? = some fn) (hb : fn.body = some c)
    (hpre : preOK pre = true) (huq : uniqK st'.hp = true) (hargs : renL (idT pre) args = args) (hobs : ∀ id o, (id, o) ∈ pre → renOb (idT pre) o = o)
    (hrun : RunsK P (args.length + (fn.ntmps - args.length)) (pre.map (·.1)) c ⟨argEnv 0 args, pre⟩ e st') (he : e = .normal ∨ e = .ret) (hr : resA P st' fn.results.toList = some r) : Spec P f args pre r st'.hp := by
  intro F S β hp w vs M hl hv hpl hfr
  have pg : ∀ {i : Nat} {o : Ob}, look pre i = some o → given ≤ i ∧ o ≠ .dead ∧ look hp i = some o := by
    intro i o h
    have hm := look_mem h
    have := List.all_eq_true.1 hpre _ hm
    simp only [Bool.and_eq_true, Nat.ble_eq] at this
    refine ⟨this.1, ?_, hpl i o hm⟩
    rintro rfl
    have := this.2
    simp [isDeadOb] at this
  let β1 : Beta := fun i => match look pre i with
    | some _ => β i
    | none => none
  have b1 : ∀ {i : Nat} {o : Ob}, look pre i = some o → β1 i = β i := by
    intro i o h
    show (match look pre i with | some _ => β i | none => none) = β i
    rw [h]
  have b1s : ∀ {i : Nat} {b : Bl}, β1 i = some b → (∃ o, look pre i = some o) ∧ β i = some b := by
    intro i b h
    have h' : (match look pre i with | some _ => β i | none => none) = some b := h
    cases hk : look pre i with
    | none => rw [hk] at h'; cases h'
    | some o => rw [hk] at h'; exact ⟨⟨o, rfl⟩, h'⟩
  let F1 : Fr := { w0 := w, S0 := S, M := fun b => ∃ i bi, β1 i = some bi ∧ b = bi.blk, β0 := β1 }
  have T : Tab S S β β1 w (idT pre) := by
    refine ⟨fun _ h => h, fun id j bi hj hb => ?_, fun id es bi hj => ?_, fun id cs bi hj => ?_, fun id ks vs bi hj => ?_⟩
    · obtain ⟨e, o, ho⟩ := look_idT hj
      injection e with e
      subst e
      rw [b1 ho]; exact hb
    · obtain ⟨e, _⟩ := look_idT hj; cases e
    · obtain ⟨e, _⟩ := look_idT hj; cases e
    · obtain ⟨e, _⟩ := look_idT hj; cases e
  have M1 : Mem F1 S β1 pre w := by
    refine ⟨⟨M.tabw.1, fun ⟨i, bi, hi, e⟩ => M.not0 (b1s hi).2 e.symm⟩, rfl, rfl, rfl, Nat.le_refl _, fun _ _ _ => rfl, fun id o h => ?_, fun id bi h => (b1s h).1, fun i j bi bj hi hj h1 h2 h3 => ?_, fun i bi h => ?_, M.sub, fun _ h => h, fun _ h => .inl h, fun i b _ h => h⟩
    · obtain ⟨_, _, h2⟩ := pg h
      have := (M.obs id o h2).ren T (b1 h) (by rw [obC_id]; simp)
      rwa [hobs id o (look_mem h)] at this
    · obtain ⟨⟨oi, ki⟩, ei⟩ := b1s hi
      obtain ⟨⟨oj, kj⟩, ej⟩ := b1s hj
      obtain ⟨_, di, li⟩ := pg ki
      obtain ⟨_, dj, lj⟩ := pg kj
      exact M.inj i j bi bj ei ej (fun o ho => by rw [li] at ho; injection ho with ho; exact ho ▸ di) (fun o ho => by rw [lj] at ho; injection ho with ho; exact ho ▸ dj) h3
    · obtain ⟨⟨oi, ki⟩, ei⟩ := b1s h
      obtain ⟨gi, _, _⟩ := pg ki
      obtain ⟨p1, p2, _⟩ := M.own i bi ei
      exact ⟨p1, p2, .inl ⟨gi, i, bi, h, rfl⟩⟩
  have E1 : Env S β1 w (args.length + (fn.ntmps - args.length)) (argEnv 0 args) { tmps := vs.toArray ++ Array.replicate (fn.ntmps - vs.toArray.size) undef, defers := [] } := by
    refine ⟨by simp [hl], rfl, fun t => ?_⟩
    unfold lookD
    cases hk : look (argEnv 0 args) t with
    | none => exact .dead _
    | some x =>
      obtain ⟨_, h2⟩ := argEnv_look hk
      rw [Nat.sub_zero] at h2
      have hlt : t < vs.length := by rw [hl]; exact (List.getElem?_eq_some_iff.1 h2).1
      have hvt : vs[t]? = some (vs[t]'hlt) := List.getElem?_eq_getElem hlt
      have hV := (hv t _ x hvt h2).ren T (by rw [renC_id]; simp)
      have hx : ren (idT pre) x = x := by
        have : (renL (idT pre) args)[t]? = some x := by rw [hargs]; exact h2
        obtain ⟨c0, h3, h4⟩ := renL_get this
        rw [h2] at h3; injection h3 with h3; subst h3; exact h4.symm
      rw [hx] at hV
      have he2 : Act.eval { tmps := vs.toArray ++ Array.replicate (fn.ntmps - vs.toArray.size) undef, defers := [] } (.tmp t) = vs[t]'hlt := by
        simp only [Act.eval, Array.getD_eq_getD_getElem?]
        rw [Array.getElem?_append_left (by simpa using hlt)]
        simp [hvt]
      rw [he2]
      exact hV
  refine calls_of_wp hf hb ?_
  refine wp_mono (hrun F1 _ w (fun i b h => let ⟨⟨o, ho⟩, _⟩ := b1s h; List.mem_map.2 ⟨(i, o), look_mem ho, rfl⟩) ⟨S, β1, E1, M1⟩) fun e' a' w' ⟨h1, S', β2, E', M'⟩ => ?_
  obtain ⟨v, hres, hV⟩ := results_sound (fn := fn) E' M' hr
  have notM : ∀ b, S b → ¬ F1.M b := by
    rintro b hs ⟨i, bi, hi, rfl⟩
    exact (M.own i bi (b1s hi).2).1 hs
  have hag : Agr S w w' := fun b hb => M'.keep b (M.sub b hb) (notM b hb)
  have keepPre : ∀ {i : Nat} {o : Ob}, look pre i = some o → ∃ b, β i = some b ∧ β2 i = some b := by
    intro i o h
    obtain ⟨gi, _, li⟩ := pg h
    obtain ⟨b, hb⟩ := (M.obs i o li).some
    exact ⟨b, hb, M'.giv i b gi ((b1 h).trans hb)⟩
  -- a number of the callee's that the caller has too is one that was handed over
  have both : ∀ {i : Nat} {b b' : Bl}, β i = some b → β2 i = some b' → b' = b ∧ ∃ o, look pre i = some o := by
    intro i b b' h h'
    cases hk : look pre i with
    | some o =>
      obtain ⟨b0, e1, e2⟩ := keepPre hk
      rw [h] at e1; rw [h'] at e2
      injection e1 with e1; injection e2 with e2
      exact ⟨e2.trans e1.symm, o, rfl⟩
    | none =>
      exfalso
      obtain ⟨o2, ho2⟩ := M'.dom i b' h'
      have := hfr i o2 (look_mem ho2) (fun o' hm => by
        have : ∀ {l : List (Nat × Ob)}, (i, o') ∈ l → look l i ≠ none := by
          intro l
          induction l with
          | nil => intro h; simp at h
          | cons y l ih =>
            intro h
            obtain ⟨k, z⟩ := y
            simp only [look]
            by_cases e : k = i
            · rw [if_pos e]; simp
            · rw [if_neg e]
              rcases List.mem_cons.1 h with h | h
              · injection h with h3 h4; exact absurd h3.symm e
              · exact ih h
        exact this hm hk)
      obtain ⟨o, ho⟩ := M.dom i b h
      rw [this] at ho
      cases ho
  let β' : Beta := fun i => match β2 i with
    | some b => some b
    | none => β i
  have x2 : ∀ i b, β2 i = some b → β' i = some b := by
    intro i b h
    show (match β2 i with | some b => some b | none => β i) = some b
    rw [h]
  have x1 : ∀ i b, β i = some b → β' i = some b := by
    intro i b h
    cases h2 : β2 i with
    | none =>
      show (match β2 i with | some b => some b | none => β i) = some b
      rw [h2]; exact h
    | some b' =>
      have := (both h h2).1
      subst this
      exact x2 i b' h2
  have xc : ∀ {i b}, β' i = some b → β2 i = some b ∨ (β2 i = none ∧ β i = some b) := by
    intro i b h
    have h' : (match β2 i with | some b => some b | none => β i) = some b := h
    cases h2 : β2 i with
    | none => rw [h2] at h'; exact .inr ⟨rfl, h'⟩
    | some b' => rw [h2] at h'; exact .inl h'
  have hlook := look_putAll huq hp
  -- what is not the callee's stays
  have out : ∀ {i : Nat} {bi : Bl} {o : Ob}, β i = some bi → look hp i = some o → o ≠ .dead → β2 i = none → w'.heap[bi.blk]? = w.heap[bi.blk]? := by
    intro i bi o hi ho hd h2
    refine M'.keep _ (M.own i bi hi).2.1 ?_
    rintro ⟨p, bp, hp1, hp2⟩
    obtain ⟨⟨op, kp⟩, ep⟩ := b1s hp1
    obtain ⟨_, dp, lp⟩ := pg kp
    have := M.inj i p bi bp hi ep (fun o' ho' => by rw [ho] at ho'; injection ho' with ho'; exact ho' ▸ hd) (fun o' ho' => by rw [lp] at ho'; injection ho' with ho'; exact ho' ▸ dp) hp2
    subst this
    obtain ⟨b0, e1, e2⟩ := keepPre kp
    rw [h2] at e2; cases e2
  have hend : Ext S S' β β' w w' ∧ Mem F S' β' (putAll hp st'.hp) w' ∧ V S' β' w' v r := by
    refine ⟨⟨M'.base, x1, hag⟩, ?_, hV.mono (fun _ h => h) x2 (Agr.refl _ _)⟩
    refine ⟨M.tab, M'.os.trans M.os, M'.tape.trans M.tape, M'.output.trans M.output, Nat.le_trans M.size M'.size, fun b h1 h2 => ?_, fun id o h => ?_, fun id bi h => ?_, fun i j bi bj hi hj h1 h2 h3 => ?_, fun i bi hi => ?_, M'.sub, fun b h => M'.base b (M.base b h), fun b h => ?_, fun i b h1 h2 => x1 i b (M.giv i b h1 h2)⟩
    · rw [← M.keep b h1 h2]
      refine M'.keep b (Nat.lt_of_lt_of_le h1 M.size) ?_
      rintro ⟨p, bp, hp1, rfl⟩
      rcases (M.own p bp (b1s hp1).2).2.2 with ⟨_, h⟩ | h
      · exact h2 h
      · exact absurd h1 (Nat.not_lt.2 h)
    · rw [hlook] at h
      cases hk : look st'.hp id with
      | some o2 =>
        rw [hk] at h
        injection h with h
        subst h
        exact (M'.obs id o2 hk).mono (fun _ h => h) x2 (Agr.refl _ _) (fun _ _ => rfl)
      | none =>
        rw [hk] at h
        have h2n : β2 id = none := by
          cases h2 : β2 id with
          | none => rfl
          | some b => obtain ⟨o2, ho2⟩ := M'.dom id b h2; rw [hk] at ho2; cases ho2
        have hob := M.obs id o h
        by_cases hd : o = .dead
        · subst hd
          obtain ⟨b, hb⟩ := hob
          exact ⟨b, x1 id b hb⟩
        · exact hob.mono M'.base x1 hag (fun bi hi => out hi h hd h2n)
    · rw [hlook]
      rcases xc h with h | ⟨h2, h⟩
      · obtain ⟨o, ho⟩ := M'.dom id bi h
        exact ⟨o, by rw [ho]⟩
      · obtain ⟨o, ho⟩ := M.dom id bi h
        cases hk : look st'.hp id with
        | some o2 => exact ⟨o2, rfl⟩
        | none => exact ⟨o, ho⟩
    · have lv2 : ∀ {k : Nat} {b : Bl}, β2 k = some b → (∀ o, look (putAll hp st'.hp) k = some o → o ≠ .dead) → ∀ o, look st'.hp k = some o → o ≠ .dead := by
        intro k b hk hh o ho
        exact hh o (by rw [hlook, ho])
      have lv1 : ∀ {k : Nat}, β2 k = none → (∀ o, look (putAll hp st'.hp) k = some o → o ≠ .dead) → ∀ o, look hp k = some o → o ≠ .dead := by
        intro k hk hh o ho
        refine hh o ?_
        rw [hlook]
        cases hs : look st'.hp k with
        | none => exact ho
        | some o2 =>
          exfalso
          obtain ⟨b, hb⟩ := (M'.obs k o2 hs).some
          rw [hk] at hb; cases hb
      have mixed : ∀ {i j : Nat} {bi bj : Bl}, β2 i = some bi → β2 j = none → β j = some bj → (∀ o, look (putAll hp st'.hp) j = some o → o ≠ .dead) → bi.blk = bj.blk → False := by
        intro i j bi bj hi hj2 hj hlj hblk
        rcases (M'.own i bi hi).2.2 with ⟨_, p, bp, hp1, hp2⟩ | h
        · obtain ⟨⟨op, kp⟩, ep⟩ := b1s hp1
          obtain ⟨_, dp, lp⟩ := pg kp
          have := M.inj p j bp bj ep hj (fun o' ho' => by rw [lp] at ho'; injection ho' with ho'; exact ho' ▸ dp) (lv1 hj2 hlj) (hp2.symm.trans hblk)
          subst this
          obtain ⟨b0, e1, e2⟩ := keepPre kp
          rw [hj2] at e2; cases e2
        · have := (M.own j bj hj).2.1
          have hw : F1.w0.heap.size = w.heap.size := rfl
          rw [hblk] at h
          omega
      rcases xc hi with hi | ⟨hi2, hi⟩ <;> rcases xc hj with hj | ⟨hj2, hj⟩
      · exact M'.inj i j bi bj hi hj (lv2 hi h1) (lv2 hj h2) h3
      · exact (mixed hi hj2 hj h2 h3).elim
      · exact (mixed hj hi2 hi h1 h3.symm).elim
      · exact M.inj i j bi bj hi hj (lv1 hi2 h1) (lv1 hj2 h2) h3
    · rcases xc hi with hi | ⟨hi2, hi⟩
      · obtain ⟨p1, p2, p3⟩ := M'.own i bi hi
        refine ⟨p1, p2, ?_⟩
        rcases p3 with ⟨g, p, bp, hp1, hp2⟩ | p3
        · rw [hp2]
          rcases (M.own p bp (b1s hp1).2).2.2 with ⟨_, h⟩ | h
          · exact .inl ⟨g, h⟩
          · exact .inr h
        · exact .inr (Nat.le_trans M.size p3)
      · obtain ⟨p1, p2, p3⟩ := M.own i bi hi
        refine ⟨fun hs => ?_, Nat.lt_of_lt_of_le p2 M'.size, p3⟩
        rcases M'.new _ hs with h | h
        · exact p1 h
        · exact absurd p2 (Nat.not_lt.2 h)
    · rcases M'.new b h with h | h
      · exact M.new b h
      · exact .inr (Nat.le_trans M.size h)
  obtain ⟨x, m, hv2⟩ := hend
  rcases he with rfl | rfl
  · subst h1; exact ⟨E'.2.1, v, hres, v, S', β', rfl, x, m, hv2⟩
  · subst h1; exact ⟨E'.2.1, v, hres, v, S', β', rfl, x, m, hv2⟩

end
end Go.Ped
