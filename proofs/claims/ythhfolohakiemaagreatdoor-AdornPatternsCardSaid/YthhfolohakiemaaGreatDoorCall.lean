/-
  The engine, part 20: a function's contract out of its body. First kind: it is told nothing of its caller's pieces, and hands back what can only be read.
-/
import Derived.Test.YthhfolohakiemaaGreatDoorRen2
set_option linter.unusedVariables false
namespace Go.Ped
open Go.RowKit

def resA1 (P : Program) (st : St) : ResultVar → Option AV
  | .tmp t => some (lookD st.env t)
  | .cell a ty => match lookD st.env a with
    | .tptr cs => readA P ty cs
    | .elt id k off => (match k, look st.hp id with
      | 0, some (.var cs) => readA P ty (cs.drop off)
      | _, _ => none)
    | _ => none

def resList (P : Program) (st : St) : List ResultVar → Option (List AV)
  | [] => some []
  | x :: r => match resA1 P st x with
    | some v => (resList P st r).map (v :: ·)
    | none => none

def resA (P : Program) (st : St) (l : List ResultVar) : Option AV :=
  match resList P st l with
  | some [x] => some x
  | some vs => some (.tup vs)
  | none => none

def argEnv (k : Nat) : List AV → List (Nat × AV)
  | [] => []
  | x :: r => (k, x) :: argEnv (k + 1) r

theorem argEnv_look : ∀ {l : List AV} {k t : Nat} {x : AV}, look (argEnv k l) t = some x → k ≤ t ∧ l[t - k]? = some x
  | [], k, t, x, h => by cases h
  | y :: r, k, t, x, h => by
    simp only [argEnv, look] at h
    by_cases e : k = t
    · rw [if_pos e] at h; injection h with h; subst h; subst e; exact ⟨Nat.le_refl _, by simp⟩
    · rw [if_neg e] at h
      obtain ⟨h1, h2⟩ := argEnv_look h
      refine ⟨by omega, ?_⟩
      have : t - k = (t - (k + 1)) + 1 := by omega
      rw [this]
      exact h2

section
variable {P : Program} {F : Fr} {S : Blk} {β : Beta} {hp : List (Nat × Ob)} {w : World}

/-- A result is taken so. -/
def oneRes (tmps : Array Value) : ResultVar → Sem Value
  | .tmp t => pure (tmps.getD t undef)
  | .cell a t => do loadVar t (← asAddr (tmps.getD a undef))

theorem results_eq (fn : Func) (tmps : Array Value) : results fn tmps = (do
    let vs ← fn.results.mapM (oneRes tmps)
    pure (if h : vs.size = 1 then vs[0] else .tuple vs)) := by
  unfold results
  congr 1

theorem resA1_sound {st : St} {n : Nat} {a : Act} (E : Env S β w n st.env a) (M : Mem F S β st.hp w) {x : ResultVar} {y : AV} (h : resA1 P st x = some y) :
    ∃ v, (oneRes a.tmps x).run P w = .ok v w ∧ V S β w v y := by
  cases x with
  | tmp t =>
    injection h with h
    subst h
    exact ⟨_, rfl, E.2.2 t⟩
  | cell b ty =>
    simp only [resA1] at h
    have hv := E.2.2 b
    have he : a.eval (.tmp b) = a.tmps.getD b undef := rfl
    change ∃ v, (asAddr (a.eval (.tmp b)) >>= fun p => loadVar ty p).run P w = .ok v w ∧ V S β w v y
    generalize a.eval (.tmp b) = vb at hv
    generalize lookD st.env b = B at h hv
    cases B with
    | tptr cs =>
      simp only at h
      cases hv with
      | tptr bl o _ U hS hcc hvv =>
        obtain ⟨v, h1, h2⟩ := read_sound (P := P) h bl o fun j c hj => ⟨U j, hcc j c hj, (hvv j c hj).up⟩
        refine ⟨v, ?_, h2⟩
        simp [asAddr, h1]
    | elt id k off =>
      simp only at h
      split at h
      · rename_i cs hl
        cases hv with
        | elt _ _ _ bi hb =>
          obtain ⟨bj, e1, e2, e3⟩ := M.obs id _ hl
          rw [hb] at e1; injection e1 with e1; subst e1
          have hat := e3.at_ (k := 0) (e := .agg cs) rfl off
          obtain ⟨v, h1, h2⟩ := read_sound (P := P) h bi.blk (0 * bi.sz + off) hat
          refine ⟨v, ?_, h2⟩
          simp only [Nat.zero_mul, Nat.zero_add] at h1
          simp [asAddr, h1]
      · cases h
    | _ => cases h

theorem resList_sound {st : St} {n : Nat} {a : Act} (E : Env S β w n st.env a) (M : Mem F S β st.hp w) : ∀ {l : List ResultVar} {ys : List AV}, resList P st l = some ys →
    ∃ vs : List Value, (l.mapM (oneRes a.tmps)).run P w = .ok vs w ∧ vs.length = ys.length ∧ ∀ (i : Nat) v y, vs[i]? = some v → ys[i]? = some y → V S β w v y
  | [], ys, h => by
    injection h with h
    subst h
    exact ⟨[], rfl, rfl, by simp⟩
  | x :: r, ys, h => by
    simp only [resList] at h
    cases h1 : resA1 P st x with
    | none => rw [h1] at h; cases h
    | some y =>
      rw [h1] at h
      obtain ⟨ys', h2, rfl⟩ := Option.map_eq_some_iff.1 h
      obtain ⟨v, r1, v1⟩ := resA1_sound E M h1
      obtain ⟨vs, r2, l2, v2⟩ := resList_sound E M h2
      refine ⟨v :: vs, ?_, by simp [l2], fun i u z hu hz => ?_⟩
      · rw [List.mapM_cons]
        simp [r1, r2]
      · cases i with
        | zero => simp at hu hz; subst hu; subst hz; exact v1
        | succ i => exact v2 i u z (by simpa using hu) (by simpa using hz)

theorem results_sound {st : St} {n : Nat} {a : Act} {fn : Func} (E : Env S β w n st.env a) (M : Mem F S β st.hp w) {y : AV} (h : resA P st fn.results.toList = some y) :
    ∃ v, (results fn a.tmps).run P w = .ok v w ∧ V S β w v y := by
  unfold resA at h
  cases hl : resList P st fn.results.toList with
  | none => rw [hl] at h; cases h
  | some ys =>
    rw [hl] at h
    obtain ⟨vs, r1, l1, v1⟩ := resList_sound E M hl
    have hm : (fn.results.mapM (oneRes a.tmps)).run P w = .ok vs.toArray w := by
      rw [Array.mapM_eq_mapM_toList]
      simp [r1]
    rw [results_eq]
    simp only [Sem.run_bind, hm]
    refine ⟨_, rfl, ?_⟩
    simp only [List.size_toArray]
    split
    · rename_i h1
      match vs, h1 with
      | [v], _ =>
        match ys, l1 with
        | [y0], _ =>
          injection h with h
          subst h
          exact v1 0 v y0 rfl rfl
    · rename_i h1
      have : y = .tup ys := by
        split at h
        · rename_i x hx; injection hx with hx; subst hx; simp at l1; exact absurd l1 h1
        · rename_i vs' _ hx; injection hx with hx; injection h with h; rw [← h, hx]
        · cases h
      subst this
      exact .tup vs ys l1 v1

/-- THE CONTRACT OF A FUNCTION that is told of no piece of its caller's. -/
theorem Spec.pure {f : FuncId} {fn : Func} {c : Code} {args : List AV} {st' : St} {e : Out} {r : AV} (hf : P.funcs[f]? = some fn) (hb : fn.body = some c) (hargs : noIdsL args = true)
    (hrun : Runs P (args.length + (fn.ntmps - args.length)) c ⟨argEnv 0 args, []⟩ e st') (he : e = .normal ∨ e = .ret) (hr : resA P st' fn.results.toList = some r) (hn : noIds r = true) : Spec P f args [] r [] := by
  intro F S β hp w vs M hl hv _ _
  let F1 : Fr := { w0 := w, S0 := S, M := fun _ => False, β0 := noB }
  have M1 : Mem F1 S noB [] w   := ⟨⟨M.tabw.1, fun h => h⟩, rfl, rfl, rfl, Nat.le_refl _, fun _ _ _ => rfl, fun id o h => (by cases h), fun id bi h => (by cases h), fun i j bi bj h => (by cases h), fun i bi h => (by cases h), M.sub, fun _ h => h, fun _ h => .inl h, fun i b _ h => h⟩
  have E1 : Env S noB w (args.length + (fn.ntmps - args.length)) (argEnv 0 args) { tmps := vs.toArray ++ Array.replicate (fn.ntmps - vs.toArray.size) undef, defers := [] } := by
    refine ⟨by simp [hl], rfl, fun t => ?_⟩
    unfold lookD
    cases hk : look (argEnv 0 args) t with
    | none => exact .dead _
    | some x =>
      obtain ⟨_, h2⟩ := argEnv_look hk
      rw [Nat.sub_zero] at h2
      have hlt : t < vs.length := by rw [hl]; exact (List.getElem?_eq_some_iff.1 h2).1
      have hvt : vs[t]? = some (vs[t]'hlt) := List.getElem?_eq_getElem hlt
      have := (hv t _ x hvt h2).noIds (noIdsL_iff.1 hargs x (List.mem_of_getElem? h2))
      have he2 : Act.eval { tmps := vs.toArray ++ Array.replicate (fn.ntmps - vs.toArray.size) undef, defers := [] } (.tmp t) = vs[t]'hlt := by
        simp only [Act.eval, Array.getD_eq_getD_getElem?]
        rw [Array.getElem?_append_left (by simpa using hlt)]
        simp [hvt]
      rw [he2]
      exact this
  refine calls_of_wp hf hb ?_
  refine wp_mono (hrun F1 _ w ⟨S, noB, E1, M1⟩) fun e' a' w' ⟨h1, S', β', E', M'⟩ => ?_
  obtain ⟨v, hres, hV⟩ := results_sound (fn := fn) E' M' hr
  have hag : Agr S w w' := fun b hb => M'.keep b (M.sub b hb) (fun h => h)
  have hend : ∃ S2 β2, Ext S S2 β β2 w w' ∧ Mem F S2 β2 hp w' ∧ V S2 β2 w' v r := by
    refine ⟨S', β, ⟨M'.base, fun _ _ h => h, hag⟩, ?_, (hV.noIds hn).up⟩
    have out : ∀ i bi, β i = some bi → w'.heap[bi.blk]? = w.heap[bi.blk]? := fun i bi hi => M'.keep _ (M.own i bi hi).2.1 (fun h => h)
    refine ⟨M.tab, M'.os.trans M.os, M'.tape.trans M.tape, M'.output.trans M.output, Nat.le_trans M.size M'.size, fun b h1 h2 => (M'.keep b (Nat.lt_of_lt_of_le h1 M.size) (fun h => h)).trans (M.keep b h1 h2), fun id o h => (M.obs id o h).mono M'.base (fun _ _ h => h) hag (out id), M.dom, M.inj, fun i bi hi => ?_, M'.sub, fun b h => M'.base b (M.base b h), fun b h => ?_, M.giv⟩
    · obtain ⟨p1, p2, p3⟩ := M.own i bi hi
      refine ⟨fun hs => ?_, Nat.lt_of_lt_of_le p2 M'.size, p3⟩
      rcases M'.new _ hs with h | h
      · exact p1 h
      · exact absurd p2 (Nat.not_lt.2 h)
    · rcases M'.new b h with h | h
      · exact M.new b h
      · exact .inr (Nat.le_trans M.size h)
  obtain ⟨S2, β2, x, m, hv2⟩ := hend
  rcases he with rfl | rfl
  · subst h1; exact ⟨E'.2.1, v, hres, v, S2, β2, rfl, x, m, hv2⟩
  · subst h1; exact ⟨E'.2.1, v, hres, v, S2, β2, rfl, x, m, hv2⟩

end
end Go.Ped
