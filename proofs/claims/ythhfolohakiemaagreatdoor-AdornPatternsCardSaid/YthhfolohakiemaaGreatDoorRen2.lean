/-
  The engine, part 19: the same of memory.
-/
import Derived.Test.YthhfolohakiemaaGreatDoorRen
set_option linter.unusedVariables false
namespace Go.Ped
open Go.RowKit

/-- What the one who proves says of a piece: it keeps on under this number (it holds no numbers itself); it is put away. -/
inductive Rk where
  | keep (j : Nat) (bare : Bool)
  | freeze

def renOb (ρ : List (Nat × Rn)) : Ob → Ob
  | .var cs => .var (renL ρ cs)
  | .row sz es => .row sz (renL ρ es)
  | .map ks vs => .map (renL ρ ks) (renL ρ vs)
  | .dead => .dead

def obC (ρ : List (Nat × Rn)) : Ob → List Prop
  | .var cs => renCL ρ cs
  | .row _ es => renCL ρ es
  | .map ks vs => renCL ρ ks ++ renCL ρ vs
  | .dead => []

def bareOb : Ob → List Prop
  | .var cs => [noIdsL cs = true]
  | .row _ es => [noIdsL es = true]
  | .map ks vs => [noIdsL ks = true ∧ noIdsL vs = true]
  | .dead => []

def isDeadOb : Ob → Bool
  | .dead => true
  | _ => false

/-- What the table comes to. -/
def resolve (hp : List (Nat × Ob)) : List (Nat × Rk) → Option (List (Nat × Rn))
  | [] => some []
  | (id, .keep j _) :: r => match look hp id with
    | some o => if isDeadOb o = false ∧ Nat.blt id given = Nat.blt j given then (resolve hp r).map ((id, .keep j) :: ·) else none
    | none => none
  | (id, .freeze) :: r => if Nat.blt id given = true then
      match look hp id with
      | some (.row _ es) => (resolve hp r).map ((id, .row es) :: ·)
      | some (.var cs) => (resolve hp r).map ((id, .var cs) :: ·)
      | some (.map ks vs) => (resolve hp r).map ((id, .map ks vs) :: ·)
      | _ => none
    else none

def newHp (ρ : List (Nat × Rn)) (hp : List (Nat × Ob)) : List (Nat × Rk) → List (Nat × Ob)
  | [] => []
  | (id, .keep j b) :: r => match look hp id with
    | some o => (j, bif b then o else renOb ρ o) :: newHp ρ hp r
    | none => newHp ρ hp r
  | (_, .freeze) :: r => newHp ρ hp r

def newCs (ρ : List (Nat × Rn)) (hp : List (Nat × Ob)) : List (Nat × Rk) → List Prop
  | [] => []
  | (id, .keep _ b) :: r => (match look hp id with
    | some o => bif b then bareOb o else obC ρ o
    | none => []) ++ newCs ρ hp r
  | (id, .freeze) :: r => (match look hp id with
    | some o => bareOb o
    | none => []) ++ newCs ρ hp r

def keepOf : List (Nat × Rk) → Nat → Option Nat
  | [], _ => none
  | (id, .keep j _) :: r, k => if j = k then some id else keepOf r k
  | (_, .freeze) :: r, k => keepOf r k

def hasKey (k : Nat) : List (Nat × Rk) → Bool
  | [] => false
  | (i, _) :: r => Nat.beq i k || hasKey k r

def hasGoal (k : Nat) : List (Nat × Rk) → Bool
  | [] => false
  | (_, .keep j _) :: r => Nat.beq j k || hasGoal k r
  | (_, .freeze) :: r => hasGoal k r

def apartT : List (Nat × Rk) → Bool
  | [] => true
  | (i, .keep j _) :: r => !hasKey i r && !hasGoal j r && apartT r
  | (i, .freeze) :: r => !hasKey i r && apartT r

theorem hasKey_mem {k : Nat} : ∀ {tb : List (Nat × Rk)} {x : Rk}, (k, x) ∈ tb → hasKey k tb = true
  | (i, y) :: r, x, h => by
    rcases List.mem_cons.1 h with h | h
    · injection h with h1 h2; subst h1; simp [hasKey]
    · simp [hasKey, hasKey_mem h]

theorem hasGoal_mem {k i : Nat} {b : Bool} : ∀ {tb : List (Nat × Rk)}, (i, Rk.keep k b) ∈ tb → hasGoal k tb = true
  | (i', .keep j b') :: r, h => by
    rcases List.mem_cons.1 h with h | h
    · injection h with h1 h2; injection h2 with h2; subst h2; simp [hasGoal]
    · simp [hasGoal, hasGoal_mem h]
  | (i', .freeze) :: r, h => by
    rcases List.mem_cons.1 h with h | h
    · injection h with h1 h2; cases h2
    · simp [hasGoal, hasGoal_mem h]

theorem apart_key : ∀ {tb : List (Nat × Rk)}, apartT tb = true → ∀ {i : Nat} {x y : Rk}, (i, x) ∈ tb → (i, y) ∈ tb → x = y
  | [], _, i, x, y, h, _ => by simp at h
  | (i', z) :: r, ha, i, x, y, hx, hy => by
    have hk : hasKey i' r = false ∧ apartT r = true := by
      cases z with
      | keep j b => simp only [apartT, Bool.and_eq_true, Bool.not_eq_true'] at ha; exact ⟨ha.1.1, ha.2⟩
      | freeze => simp only [apartT, Bool.and_eq_true, Bool.not_eq_true'] at ha; exact ha
    rcases List.mem_cons.1 hx with gx | gx <;> rcases List.mem_cons.1 hy with gy | gy
    · injection gx with h1 h2; injection gy with h3 h4; rw [h2, h4]
    · injection gx with h1 h2; subst h1; rw [hasKey_mem gy] at hk; cases hk.1
    · injection gy with h1 h2; subst h1; rw [hasKey_mem gx] at hk; cases hk.1
    · exact apart_key hk.2 gx gy

theorem keepOf_mem : ∀ {tb : List (Nat × Rk)} {k id : Nat}, keepOf tb k = some id → ∃ b, (id, Rk.keep k b) ∈ tb
  | (i, .keep j b) :: r, k, id, h => by
    simp only [keepOf] at h
    by_cases e : j = k
    · rw [if_pos e] at h; injection h with h; subst h; subst e; exact ⟨b, by simp⟩
    · rw [if_neg e] at h; obtain ⟨b', hb⟩ := keepOf_mem h; exact ⟨b', by simp [hb]⟩
  | (i, .freeze) :: r, k, id, h => by
    simp only [keepOf] at h
    obtain ⟨b', hb⟩ := keepOf_mem h; exact ⟨b', by simp [hb]⟩

theorem mem_keepOf : ∀ {tb : List (Nat × Rk)}, apartT tb = true → ∀ {k id : Nat} {b : Bool}, (id, Rk.keep k b) ∈ tb → keepOf tb k = some id
  | [], _, k, id, b, h => by simp at h
  | (i, .keep j b') :: r, ha, k, id, b, h => by
    simp only [apartT, Bool.and_eq_true, Bool.not_eq_true'] at ha
    simp only [keepOf]
    rcases List.mem_cons.1 h with h | h
    · injection h with h1 h2; injection h2 with h2 h3; subst h1; subst h2; rw [if_pos rfl]
    · have : j ≠ k := by rintro rfl; rw [hasGoal_mem h] at ha; cases ha.1.2
      rw [if_neg this]; exact mem_keepOf ha.2 h
  | (i, .freeze) :: r, ha, k, id, b, h => by
    simp only [apartT, Bool.and_eq_true, Bool.not_eq_true'] at ha
    simp only [keepOf]
    rcases List.mem_cons.1 h with h | h
    · injection h with h1 h2; cases h2
    · exact mem_keepOf ha.2 h

theorem resolve_keep {hp : List (Nat × Ob)} : ∀ {tb : List (Nat × Rk)} {ρ : List (Nat × Rn)}, resolve hp tb = some ρ → ∀ {id j : Nat} {b : Bool}, (id, Rk.keep j b) ∈ tb → ∃ o, look hp id = some o ∧ o ≠ .dead ∧ (id < given ↔ j < given)
  | [], _, _, id, j, b, h => by simp at h
  | (i, .keep k c) :: r, ρ, hr, id, j, b, h => by
    simp only [resolve] at hr
    cases hl : look hp i with
    | none => rw [hl] at hr; cases hr
    | some o =>
      rw [hl] at hr
      simp only at hr
      split at hr
      · rename_i hd
        obtain ⟨ρ', h1, h2⟩ := Option.map_eq_some_iff.1 hr
        rcases List.mem_cons.1 h with h | h
        · injection h with e1 e2; injection e2 with e2 _; subst e1; subst e2
          refine ⟨o, hl, (by rintro rfl; cases hd.1), ?_⟩
          rw [← Nat.blt_eq, ← Nat.blt_eq, hd.2]
        · exact resolve_keep h1 h
      · cases hr
  | (i, .freeze) :: r, ρ, hr, id, j, b, h => by
    simp only [resolve] at hr
    rcases List.mem_cons.1 h with h | h
    · injection h with e1 e2; cases e2
    · split at hr
      · split at hr
        · obtain ⟨ρ', h1, h2⟩ := Option.map_eq_some_iff.1 hr; exact resolve_keep h1 h
        · obtain ⟨ρ', h1, h2⟩ := Option.map_eq_some_iff.1 hr; exact resolve_keep h1 h
        · obtain ⟨ρ', h1, h2⟩ := Option.map_eq_some_iff.1 hr; exact resolve_keep h1 h
        · cases hr
      · cases hr

/-- The caller's pieces keep their numbers. -/
def hasKeep (k : Nat) : List (Nat × Rk) → Bool
  | [] => false
  | (i, .keep j _) :: r => (Nat.beq i k && Nat.beq j k) || hasKeep k r
  | (_, .freeze) :: r => hasKeep k r

def givenKept (hp : List (Nat × Ob)) (tb : List (Nat × Rk)) : Bool := hp.all fun x => Nat.blt x.1 given || hasKeep x.1 tb

theorem hasKeep_mem {k : Nat} : ∀ {tb : List (Nat × Rk)}, hasKeep k tb = true → ∃ b, (k, Rk.keep k b) ∈ tb
  | (i, .keep j b) :: r, h => by
    simp only [hasKeep, Bool.or_eq_true, Bool.and_eq_true, Nat.beq_eq] at h
    rcases h with ⟨rfl, rfl⟩ | h
    · exact ⟨b, by simp⟩
    · obtain ⟨b', hb⟩ := hasKeep_mem h; exact ⟨b', by simp [hb]⟩
  | (i, .freeze) :: r, h => by
    simp only [hasKeep] at h
    obtain ⟨b', hb⟩ := hasKeep_mem h; exact ⟨b', by simp [hb]⟩

theorem look_key {α : Type} : ∀ {l : List (Nat × α)} {k : Nat} {x : α}, look l k = some x → ∃ y, (k, y) ∈ l
  | (i, y) :: r, k, x, h => by
    simp only [look] at h
    by_cases e : i = k
    · subst e; exact ⟨y, by simp⟩
    · rw [if_neg e] at h; obtain ⟨z, hz⟩ := look_key h; exact ⟨z, by simp [hz]⟩

theorem givenKept_spec {hp : List (Nat × Ob)} {tb : List (Nat × Rk)} (h : givenKept hp tb = true) {k : Nat} {o : Ob} (hk : given ≤ k) (ho : look hp k = some o) : ∃ b, (k, Rk.keep k b) ∈ tb := by
  obtain ⟨y, hy⟩ := look_key ho
  have := List.all_eq_true.1 h _ hy
  simp only [Bool.or_eq_true, Nat.blt_eq] at this
  exact hasKeep_mem (this.resolve_left (Nat.not_lt.2 hk))

/-- What the resolved table says of a number. -/
theorem resolve_look {hp : List (Nat × Ob)} : ∀ {tb : List (Nat × Rk)} {ρ : List (Nat × Rn)}, resolve hp tb = some ρ → ∀ {id : Nat} {x : Rn}, look ρ id = some x →
    (∃ j b, x = .keep j ∧ (id, Rk.keep j b) ∈ tb) ∨ ((id, Rk.freeze) ∈ tb ∧ id < given ∧ ((∃ sz es, x = .row es ∧ look hp id = some (.row sz es)) ∨ (∃ cs, x = .var cs ∧ look hp id = some (.var cs)) ∨ ∃ ks vs, x = .map ks vs ∧ look hp id = some (.map ks vs)))
  | [], ρ, hr, id, x, h => by injection hr with hr; subst hr; cases h
  | (i, .keep k c) :: r, ρ, hr, id, x, h => by
    simp only [resolve] at hr
    cases hl : look hp i with
    | none => rw [hl] at hr; cases hr
    | some o =>
      rw [hl] at hr
      simp only at hr
      split at hr
      · obtain ⟨ρ', h1, rfl⟩ := Option.map_eq_some_iff.1 hr
        simp only [look] at h
        by_cases e : i = id
        · rw [if_pos e] at h; injection h with h; subst h; subst e; exact .inl ⟨k, c, rfl, by simp⟩
        · rw [if_neg e] at h
          rcases resolve_look h1 h with ⟨j, b, e1, e2⟩ | ⟨e1, e2⟩
          · exact .inl ⟨j, b, e1, by simp [e2]⟩
          · exact .inr ⟨by simp [e1], e2⟩
      · cases hr
  | (i, .freeze) :: r, ρ, hr, id, x, h => by
    simp only [resolve] at hr
    split at hr
    · rename_i hlt
      have hlt' : i < given := by rw [← Nat.blt_eq]; exact hlt
      have go : ∀ {ρ' : List (Nat × Rn)} {y : Rn}, resolve hp r = some ρ' → look ((i, y) :: ρ') id = some x → (i = id ∧ x = y) ∨ look ρ' id = some x := by
        intro ρ' y _ hh
        simp only [look] at hh
        by_cases e : i = id
        · rw [if_pos e] at hh; injection hh with hh; exact .inl ⟨e, hh.symm⟩
        · rw [if_neg e] at hh; exact .inr hh
      have more : ∀ {ρ' : List (Nat × Rn)}, resolve hp r = some ρ' → look ρ' id = some x → (∃ j b, x = .keep j ∧ (id, Rk.keep j b) ∈ (i, Rk.freeze) :: r) ∨ ((id, Rk.freeze) ∈ (i, Rk.freeze) :: r ∧ id < given ∧ ((∃ sz es, x = .row es ∧ look hp id = some (.row sz es)) ∨ (∃ cs, x = .var cs ∧ look hp id = some (.var cs)) ∨ ∃ ks vs, x = .map ks vs ∧ look hp id = some (.map ks vs))) := by
        intro ρ' h1 h2
        rcases resolve_look h1 h2 with ⟨j, b, e1, e2⟩ | ⟨e1, e2⟩
        · exact .inl ⟨j, b, e1, by simp [e2]⟩
        · exact .inr ⟨by simp [e1], e2⟩
      split at hr
      · rename_i sz es hl
        obtain ⟨ρ', h1, rfl⟩ := Option.map_eq_some_iff.1 hr
        rcases go h1 h with ⟨rfl, rfl⟩ | h2
        · exact .inr ⟨by simp, hlt', .inl ⟨sz, es, rfl, hl⟩⟩
        · exact more h1 h2
      · rename_i cs hl
        obtain ⟨ρ', h1, rfl⟩ := Option.map_eq_some_iff.1 hr
        rcases go h1 h with ⟨rfl, rfl⟩ | h2
        · exact .inr ⟨by simp, hlt', .inr (.inl ⟨cs, rfl, hl⟩)⟩
        · exact more h1 h2
      · rename_i ks vs hl
        obtain ⟨ρ', h1, rfl⟩ := Option.map_eq_some_iff.1 hr
        rcases go h1 h with ⟨rfl, rfl⟩ | h2
        · exact .inr ⟨by simp, hlt', .inr (.inr ⟨ks, vs, rfl, hl⟩)⟩
        · exact more h1 h2
      · cases hr
    · cases hr

theorem newHp_look {ρ : List (Nat × Rn)} {hp : List (Nat × Ob)} : ∀ {tb : List (Nat × Rk)}, (∀ {id j : Nat} {b : Bool}, (id, Rk.keep j b) ∈ tb → ∃ o, look hp id = some o) →
    ∀ (j : Nat), (∀ o', look (newHp ρ hp tb) j = some o' → ∃ id b o, (id, Rk.keep j b) ∈ tb ∧ keepOf tb j = some id ∧ look hp id = some o ∧ o' = bif b then o else renOb ρ o) ∧ (∀ id, keepOf tb j = some id → ∃ o', look (newHp ρ hp tb) j = some o')
  | [], _, j => ⟨fun o' h => by simp [newHp, look] at h, fun id h => by simp [keepOf] at h⟩
  | (i, .keep k b) :: r, hk, j => by
    obtain ⟨o, ho⟩ := hk (id := i) (j := k) (b := b) (by simp)
    obtain ⟨g1, g2⟩ := newHp_look (ρ := ρ) (hp := hp) (tb := r) (fun h => hk (List.mem_cons_of_mem _ h)) j
    simp only [newHp, ho, keepOf, look]
    by_cases e : k = j
    · subst e
      refine ⟨fun o' h => ?_, fun id h => ?_⟩
      · rw [if_pos rfl] at h; injection h with h
        exact ⟨i, b, o, by simp, by rw [if_pos rfl], ho, h.symm⟩
      · exact ⟨_, by rw [if_pos rfl]⟩
    · refine ⟨fun o' h => ?_, fun id h => ?_⟩
      · rw [if_neg e] at h
        obtain ⟨id, b', o2, q1, q2, q3, q4⟩ := g1 o' h
        exact ⟨id, b', o2, by simp [q1], by rw [if_neg e]; exact q2, q3, q4⟩
      · rw [if_neg e] at h ⊢
        exact g2 id h
  | (i, .freeze) :: r, hk, j => by
    obtain ⟨g1, g2⟩ := newHp_look (ρ := ρ) (hp := hp) (tb := r) (fun h => hk (List.mem_cons_of_mem _ h)) j
    simp only [newHp, keepOf]
    refine ⟨fun o' h => ?_, g2⟩
    obtain ⟨id, b', o2, q1, q2, q3, q4⟩ := g1 o' h
    exact ⟨id, b', o2, by simp [q1], q2, q3, q4⟩

mutual
theorem renC_noIds (ρ : List (Nat × Rn)) : ∀ (x : AV), noIds x = true → renC ρ x = []
  | .agg cs, h => renCL_noIds ρ cs h
  | .tup cs, h => renCL_noIds ρ cs h
  | .clo f a b, h => by
    simp only [noIds, Bool.and_eq_true] at h
    simp only [renC]; rw [renCL_noIds ρ a h.1, renCL_noIds ρ b h.2]; rfl
  | .iface t v, h => renC_noIds ρ v h
  | .row _ _ _, h => by cases h
  | .elt _ _ _, h => by cases h
  | .map _, h => by cases h
  | .int _ _, _ => rfl
  | .bool _, _ => rfl
  | .str _, _ => rfl
  | .seq _ _, _ => rfl
  | .tptr _, _ => rfl
  | .nilp, _ => rfl
  | .tmap _ _, _ => rfl
  | .nilmap, _ => rfl
  | .nils, _ => rfl
  | .nilf, _ => rfl
  | .nili, _ => rfl
  | .dead, _ => rfl
theorem renCL_noIds (ρ : List (Nat × Rn)) : ∀ (l : List AV), noIdsL l = true → renCL ρ l = []
  | [], _ => rfl
  | x :: r, h => by
    simp only [noIdsL, Bool.and_eq_true] at h
    simp only [renCL]
    rw [renC_noIds ρ x h.1, renCL_noIds ρ r h.2]; rfl
end

theorem bare_ren {ρ : List (Nat × Rn)} {o : Ob} (h : ∀ p, p ∈ bareOb o → p) : renOb ρ o = o ∧ obC ρ o = [] := by
  cases o with
  | var cs => have := h _ (List.mem_singleton.2 rfl); simp only [renOb, obC]; rw [renL_noIds ρ _ this, renCL_noIds ρ _ this]; exact ⟨rfl, rfl⟩
  | row sz es => have := h _ (List.mem_singleton.2 rfl); simp only [renOb, obC]; rw [renL_noIds ρ _ this, renCL_noIds ρ _ this]; exact ⟨rfl, rfl⟩
  | map ks vs =>
    have := h _ (List.mem_singleton.2 rfl)
    simp only [renOb, obC]; rw [renL_noIds ρ _ this.1, renL_noIds ρ _ this.2, renCL_noIds ρ _ this.1, renCL_noIds ρ _ this.2]; exact ⟨rfl, rfl⟩
  | dead => exact ⟨rfl, rfl⟩

theorem newCs_keep {ρ : List (Nat × Rn)} {hp : List (Nat × Ob)} : ∀ {tb : List (Nat × Rk)}, (∀ p, p ∈ newCs ρ hp tb → p) → ∀ {id j : Nat} {b : Bool} {o : Ob}, (id, Rk.keep j b) ∈ tb → look hp id = some o → ∀ p, p ∈ (bif b then bareOb o else obC ρ o) → p
  | [], _, id, j, b, o, h, _, _, _ => by simp at h
  | (i, .keep k c) :: r, hc, id, j, b, o, h, hl, p, hp' => by
    simp only [newCs] at hc
    rcases List.mem_cons.1 h with h | h
    · injection h with e1 e2; injection e2 with e2 e3; subst e1; subst e2; subst e3
      rw [hl] at hc
      exact hc p (List.mem_append_left _ hp')
    · exact newCs_keep (fun q hq => hc q (List.mem_append_right _ hq)) h hl p hp'
  | (i, .freeze) :: r, hc, id, j, b, o, h, hl, p, hp' => by
    simp only [newCs] at hc
    rcases List.mem_cons.1 h with h | h
    · injection h with e1 e2; cases e2
    · exact newCs_keep (fun q hq => hc q (List.mem_append_right _ hq)) h hl p hp'

theorem newCs_freeze {ρ : List (Nat × Rn)} {hp : List (Nat × Ob)} : ∀ {tb : List (Nat × Rk)}, (∀ p, p ∈ newCs ρ hp tb → p) → ∀ {id : Nat} {o : Ob}, (id, Rk.freeze) ∈ tb → look hp id = some o → ∀ p, p ∈ bareOb o → p
  | [], _, id, o, h, _, _, _ => by simp at h
  | (i, .keep k c) :: r, hc, id, o, h, hl, p, hp' => by
    simp only [newCs] at hc
    rcases List.mem_cons.1 h with h | h
    · injection h with e1 e2; cases e2
    · exact newCs_freeze (fun q hq => hc q (List.mem_append_right _ hq)) h hl p hp'
  | (i, .freeze) :: r, hc, id, o, h, hl, p, hp' => by
    simp only [newCs] at hc
    rcases List.mem_cons.1 h with h | h
    · injection h with e1 e2; subst e1
      rw [hl] at hc
      exact hc p (List.mem_append_left _ hp')
    · exact newCs_freeze (fun q hq => hc q (List.mem_append_right _ hq)) h hl p hp'

section
variable {F : Fr} {S S' : Blk} {β β' : Beta} {hp : List (Nat × Ob)} {w : World} {ρ : List (Nat × Rn)}

theorem HR.ren (T : Tab S S' β β' w ρ) {bi : Bl} {es : List AV} (h : HR S β w bi es) (hc : ∀ p, p ∈ renCL ρ es → p) : HR S' β' w bi (renL ρ es) := by
  obtain ⟨cur, t, r1, r2, r3, r4, r5, r6⟩ := h
  refine ⟨cur, t, r1, r2, by rw [renL_map, List.length_map]; exact r3, r4, fun i e he => ?_, fun i j e c he hcc => ?_⟩
  · obtain ⟨e0, h0, rfl⟩ := renL_get he
    rw [cells_ren, renL_map, List.length_map]
    exact r5 i e0 h0
  · obtain ⟨e0, h0, rfl⟩ := renL_get he
    rw [cells_ren] at hcc
    obtain ⟨c0, h1, rfl⟩ := renL_get hcc
    obtain ⟨u, hu, hv⟩ := r6 i j e0 c0 h0 h1
    refine ⟨u, hu, hv.ren T fun p hp => ?_⟩
    have hce := renCL_mem hc e0 (List.mem_of_getElem? h0)
    cases e0 with
    | agg cs => exact renCL_mem hce c0 (List.mem_of_getElem? h1) p hp
    | _ =>
      simp only [AV.cells] at h1
      have hm := List.mem_of_getElem? h1
      rw [List.mem_singleton] at hm
      subst hm
      exact hce p hp

theorem HR.bare {bi : Bl} {es : List AV} (hS : ∀ b, S b → S' b) (h : HR S β w bi es) (hn : noIdsL es = true) : HR S' noB w bi es := by
  obtain ⟨cur, t, r1, r2, r3, r4, r5, r6⟩ := h
  refine ⟨cur, t, r1, r2, r3, r4, r5, fun i j e c he hc => ?_⟩
  obtain ⟨u, hu, hv⟩ := r6 i j e c he hc
  refine ⟨u, hu, (hv.noIds ?_).mono hS (fun _ _ h => h) (Agr.refl S w)⟩
  have hne := noIdsL_iff.1 hn e (List.mem_of_getElem? he)
  cases e with
  | agg cs => exact noIdsL_iff.1 hne c (List.mem_of_getElem? hc)
  | _ =>
    simp only [AV.cells] at hc
    have hm := List.mem_of_getElem? hc
    rw [List.mem_singleton] at hm
    subst hm
    exact hne

theorem txt_ren1 {ρ : List (Nat × Rn)} {x : AV} (h : txt (Ped.ren ρ x) = true) : txt x = true := by
  cases x with
  | str s => rfl
  | row id off len =>
    simp only [Ped.ren] at h
    split at h
    · cases h
    · split at h <;> cases h
    · cases h
  | elt id k off =>
    simp only [Ped.ren] at h
    split at h
    · cases h
    · split at h <;> cases h
    · cases h
  | map id =>
    simp only [Ped.ren] at h
    split at h <;> cases h
  | _ => simp only [Ped.ren] at h; cases h

theorem txt_ren {ρ : List (Nat × Rn)} {ks : List AV} (h : (renL ρ ks).all txt = true) : ks.all txt = true := by
  rw [renL_map, List.all_map] at h
  exact List.all_eq_true.2 fun x hx => txt_ren1 (List.all_eq_true.1 h x hx)

theorem HO.ren (T : Tab S S' β β' w ρ) {id j : Nat} (hj : β' j = β id) {o : Ob} (h : HO S β w id o) (hc : ∀ p, p ∈ obC ρ o → p) : HO S' β' w j (renOb ρ o) := by
  cases o with
  | var cs =>
    obtain ⟨bi, h1, h2, h3⟩ := h
    refine ⟨bi, hj.trans h1, h2, ?_⟩
    have := HR.ren T h3 (by simpa [renCL, renC, obC] using hc)
    simpa [renL, Ped.ren] using this
  | row sz es =>
    obtain ⟨bi, h1, h2, h3⟩ := h
    exact ⟨bi, hj.trans h1, h2, HR.ren T h3 hc⟩
  | map ks vs =>
    obtain ⟨bi, es, cl, h1, h2, h3, h4, h5, h6, h7⟩ := h
    simp only [obC] at hc
    refine ⟨bi, es, cl, hj.trans h1, h2, by rw [renL_map, List.length_map]; exact h3, by rw [renL_map, List.length_map]; exact h4, fun i e k he hk => ?_, fun i e v he hv => ?_, fun hx => h7 (txt_ren hx)⟩
    · obtain ⟨k0, hk0, rfl⟩ := renL_get hk
      exact (h5 i e k0 he hk0).ren T (renCL_mem (fun p hq => hc p (List.mem_append_left _ hq)) k0 (List.mem_of_getElem? hk0))
    · obtain ⟨v0, hv0, rfl⟩ := renL_get hv
      exact (h6 i e v0 he hv0).ren T (renCL_mem (fun p hq => hc p (List.mem_append_right _ hq)) v0 (List.mem_of_getElem? hv0))
  | dead => obtain ⟨bi, h1⟩ := h; exact ⟨bi, hj.trans h1⟩

theorem HO.some {id : Nat} {o : Ob} (h : HO S β w id o) : ∃ bi, β id = Option.some bi := by
  cases o with
  | var cs => obtain ⟨bi, h1, _⟩ := h; exact ⟨bi, h1⟩
  | row sz es => obtain ⟨bi, h1, _⟩ := h; exact ⟨bi, h1⟩
  | map ks vs => obtain ⟨bi, es, cl, h1, _⟩ := h; exact ⟨bi, h1⟩
  | dead => exact h

/-- MEMORY UNDER A TABLE. -/
theorem Mem.ren (M : Mem F S β hp w) {tb : List (Nat × Rk)} (hg : givenKept hp tb = true) (ha : apartT tb = true) (hr : resolve hp tb = Option.some ρ) (hc : ∀ p, p ∈ newCs ρ hp tb → p) :
    ∃ S' β', Tab S S' β β' w ρ ∧ Mem F S' β' (newHp ρ hp tb) w := by
  let S' : Blk := fun b => S b ∨ ∃ id bi, (id, Rk.freeze) ∈ tb ∧ β id = Option.some bi ∧ b = bi.blk
  let β' : Beta := fun j => (keepOf tb j).bind β
  have hS : ∀ b, S b → S' b := fun b h => .inl h
  have hb' : ∀ {id j : Nat} {b : Bool}, (id, Rk.keep j b) ∈ tb → β' j = β id := by
    intro id j b h
    show (keepOf tb j).bind β = β id
    rw [mem_keepOf ha h]; rfl
  have live : ∀ {id j : Nat} {b : Bool}, (id, Rk.keep j b) ∈ tb → ∀ o, look hp id = Option.some o → o ≠ .dead := by
    intro id j b h o ho
    obtain ⟨o', h1, h2, _⟩ := resolve_keep hr h
    rw [ho] at h1; injection h1 with h1; rw [h1]; exact h2
  have T : Tab S S' β β' w ρ := by
    refine ⟨hS, fun id j bi hl hb => ?_, fun id es bi hl hb => ?_, fun id cs bi hl hb => ?_, fun id ks vs bi hl hb => ?_⟩
    · rcases resolve_look hr hl with ⟨j', b, e1, e2⟩ | ⟨_, _, ⟨_, _, e, _⟩ | ⟨_, e, _⟩ | ⟨_, _, e, _⟩⟩
      · injection e1 with e1; subst e1; rw [hb' e2]; exact hb
      · cases e
      · cases e
      · cases e
    · rcases resolve_look hr hl with ⟨j', b, e1, e2⟩ | ⟨hm, hlt, ⟨sz, es', e, ho⟩ | ⟨_, e, _⟩ | ⟨_, _, e, _⟩⟩
      · cases e1
      · injection e with e; subst e
        refine ⟨.inr ⟨id, bi, hm, hb, rfl⟩, ?_⟩
        obtain ⟨bj, q1, q2, q3⟩ := M.obs id _ ho
        rw [hb] at q1; injection q1 with q1; subst q1
        exact q3.bare hS (newCs_freeze hc hm ho _ (List.mem_singleton.2 rfl))
      · cases e
      · cases e
    · rcases resolve_look hr hl with ⟨j', b, e1, e2⟩ | ⟨hm, hlt, ⟨_, _, e, _⟩ | ⟨cs', e, ho⟩ | ⟨_, _, e, _⟩⟩
      · cases e1
      · cases e
      · injection e with e; subst e
        refine ⟨.inr ⟨id, bi, hm, hb, rfl⟩, ?_⟩
        obtain ⟨bj, q1, q2, q3⟩ := M.obs id _ ho
        rw [hb] at q1; injection q1 with q1; subst q1
        have hn : noIdsL cs = true := newCs_freeze hc hm ho _ (List.mem_singleton.2 rfl)
        exact q3.bare hS (by simp [noIdsL, Ped.noIds, hn])
      · cases e
    · rcases resolve_look hr hl with ⟨j', b, e1, e2⟩ | ⟨hm, hlt, ⟨_, _, e, _⟩ | ⟨_, e, _⟩ | ⟨ks', vs', e, ho⟩⟩
      · cases e1
      · cases e
      · cases e
      · injection e with e e'; subst e; subst e'
        refine ⟨.inr ⟨id, bi, hm, hb, rfl⟩, ?_⟩
        obtain ⟨bj, es, cl, q1, q2, q3, q4, q5, q6, _⟩ := M.obs id _ ho
        rw [hb] at q1; injection q1 with q1; subst q1
        obtain ⟨n1, n2⟩ := newCs_freeze hc hm ho _ (List.mem_singleton.2 rfl)
        exact ⟨es, cl, q2, q3, q4, fun i e k he hk => ((q5 i e k he hk).noIds (noIdsL_iff.1 n1 k (List.mem_of_getElem? hk))).mono hS (fun _ _ h => h) (Agr.refl S w),
          fun i e v he hv => ((q6 i e v he hv).noIds (noIdsL_iff.1 n2 v (List.mem_of_getElem? hv))).mono hS (fun _ _ h => h) (Agr.refl S w)⟩
  have hN := fun j => newHp_look (ρ := ρ) (hp := hp) (tb := tb) (fun h => let ⟨o, h1, _⟩ := resolve_keep hr h; ⟨o, h1⟩) j
  refine ⟨S', β', T, M.tab, M.os, M.tape, M.output, M.size, M.keep, fun j o' hj => ?_, fun j bi hj => ?_, fun i j bi bj hi hj h1 h2 h3 => ?_, fun j bi hj => ?_, fun b hb => ?_, fun b hb => .inl (M.base b hb), fun b hb => ?_, fun i b h1 h2 => ?_⟩
  · obtain ⟨id, b, o, h1, h2, h3, h4⟩ := (hN j).1 o' hj
    have hcs := newCs_keep hc h1 h3
    cases b with
    | true =>
      simp only [cond_true] at h4 hcs
      obtain ⟨e1, e2⟩ := bare_ren (ρ := ρ) hcs
      rw [h4, ← e1]
      exact (M.obs id o h3).ren T (hb' h1) (by rw [e2]; simp)
    | false =>
      simp only [cond_false] at h4 hcs
      rw [h4]
      exact (M.obs id o h3).ren T (hb' h1) hcs
  · have hj' : (keepOf tb j).bind β = Option.some bi := hj
    obtain ⟨id, h1, h2⟩ := Option.bind_eq_some_iff.1 hj'
    exact (hN j).2 id h1
  · have hi' : (keepOf tb i).bind β = Option.some bi := hi
    have hj' : (keepOf tb j).bind β = Option.some bj := hj
    obtain ⟨id, k1, k2⟩ := Option.bind_eq_some_iff.1 hi'
    obtain ⟨jd, k3, k4⟩ := Option.bind_eq_some_iff.1 hj'
    obtain ⟨b1, m1⟩ := keepOf_mem k1
    obtain ⟨b2, m2⟩ := keepOf_mem k3
    have := M.inj id jd bi bj k2 k4 (live m1) (live m2) h3
    subst this
    have := apart_key ha m1 m2
    injection this
  · have hj' : (keepOf tb j).bind β = Option.some bi := hj
    obtain ⟨id, k1, k2⟩ := Option.bind_eq_some_iff.1 hj'
    obtain ⟨b1, m1⟩ := keepOf_mem k1
    obtain ⟨o1, g1, g2, g3⟩ := resolve_keep hr m1
    obtain ⟨p1, p2, p3⟩ := M.own id bi k2
    refine ⟨?_, p2, ?_⟩
    · rintro (hs | ⟨fd, bf, f1, f2, f3⟩)
      · exact p1 hs
      · have hfo : ∀ o, look hp fd = Option.some o → o ≠ .dead := by
          intro o ho hd
          subst hd
          -- a dead piece is not put away
          have : ∀ {tb : List (Nat × Rk)} {ρ : List (Nat × Rn)}, resolve hp tb = Option.some ρ → (fd, Rk.freeze) ∈ tb → False := by
            intro tb
            induction tb with
            | nil => intro ρ _ h; simp at h
            | cons x r ih =>
              intro ρ hr h
              obtain ⟨i, x⟩ := x
              cases x with
              | keep k c =>
                simp only [resolve] at hr
                rcases List.mem_cons.1 h with h | h
                · injection h with e1 e2; cases e2
                · split at hr
                  · split at hr
                    · obtain ⟨ρ', h1, _⟩ := Option.map_eq_some_iff.1 hr; exact ih h1 h
                    · cases hr
                  · cases hr
              | freeze =>
                simp only [resolve] at hr
                split at hr
                · rcases List.mem_cons.1 h with h | h
                  · injection h with e1 e2; subst e1; rw [ho] at hr; cases hr
                  · split at hr
                    · obtain ⟨ρ', h1, _⟩ := Option.map_eq_some_iff.1 hr; exact ih h1 h
                    · obtain ⟨ρ', h1, _⟩ := Option.map_eq_some_iff.1 hr; exact ih h1 h
                    · obtain ⟨ρ', h1, _⟩ := Option.map_eq_some_iff.1 hr; exact ih h1 h
                    · cases hr
                · cases hr
          exact this hr f1
        have := M.inj id fd bi bf k2 f2 (live m1) hfo f3
        subst this
        have := apart_key ha m1 f1
        cases this
    · rcases p3 with ⟨p3, p4⟩ | p3
      · refine .inl ⟨?_, p4⟩
        rcases Nat.lt_or_ge j given with hlt | hge
        · exact absurd (g3.2 hlt) (Nat.not_lt.2 p3)
        · exact hge
      · exact .inr p3
  · rcases hb with hb | ⟨id, bi, f1, f2, rfl⟩
    · exact M.sub b hb
    · exact (M.own id bi f2).2.1
  · rcases hb with hb | ⟨id, bi, f1, f2, rfl⟩
    · exact M.new b hb
    · rcases (M.own id bi f2).2.2 with ⟨p, _⟩ | p
      · exfalso
        -- what is put away is the call's own
        have : ∀ {tb : List (Nat × Rk)} {ρ : List (Nat × Rn)}, resolve hp tb = Option.some ρ → (id, Rk.freeze) ∈ tb → id < given := by
          intro tb
          induction tb with
          | nil => intro ρ _ h; simp at h
          | cons x r ih =>
            intro ρ hr h
            obtain ⟨i, x⟩ := x
            cases x with
            | keep k c =>
              simp only [resolve] at hr
              rcases List.mem_cons.1 h with h | h
              · injection h with e1 e2; cases e2
              · split at hr
                · split at hr
                  · obtain ⟨ρ', h1, _⟩ := Option.map_eq_some_iff.1 hr; exact ih h1 h
                  · cases hr
                · cases hr
            | freeze =>
              simp only [resolve] at hr
              split at hr
              · rename_i hlt
                rcases List.mem_cons.1 h with h | h
                · injection h with e1 e2; subst e1; rw [← Nat.blt_eq]; exact hlt
                · split at hr
                  · obtain ⟨ρ', h1, _⟩ := Option.map_eq_some_iff.1 hr; exact ih h1 h
                  · obtain ⟨ρ', h1, _⟩ := Option.map_eq_some_iff.1 hr; exact ih h1 h
                  · obtain ⟨ρ', h1, _⟩ := Option.map_eq_some_iff.1 hr; exact ih h1 h
                  · cases hr
              · cases hr
        exact absurd p (Nat.not_le.2 (this hr f1))
      · exact .inr p
  · have hb := M.giv i b h1 h2
    obtain ⟨o, ho⟩ := M.dom i b hb
    obtain ⟨b', hm⟩ := givenKept_spec hg h1 ho
    exact (hb' hm).trans hb

/-- The slots that are kept on. -/
def renEnv (ρ : List (Nat × Rn)) (env : List (Nat × AV)) (slots : List Nat) : List (Nat × AV) := slots.map fun t => (t, ren ρ (lookD env t))
def renEnvC (ρ : List (Nat × Rn)) (env : List (Nat × AV)) (slots : List Nat) : List Prop := slots.flatMap fun t => renC ρ (lookD env t)

/-- A state under a table. -/
def renSt (slots : List Nat) (tb : List (Nat × Rk)) (st : St) : Option (St × List Prop) :=
  if apartT tb = true ∧ givenKept st.hp tb = true then
    match resolve st.hp tb with
    | Option.some ρ => Option.some (⟨renEnv ρ st.env slots, newHp ρ st.hp tb⟩, renEnvC ρ st.env slots ++ newCs ρ st.hp tb)
    | none => none
  else none

theorem look_map_slots {env : List (Nat × AV)} (f : Nat → AV) : ∀ (slots : List Nat) (t : Nat) (x : AV), look (slots.map fun t => (t, f t)) t = Option.some x → t ∈ slots ∧ x = f t
  | [], t, x, h => by simp [look] at h
  | s :: r, t, x, h => by
    simp only [List.map_cons, look] at h
    by_cases e : s = t
    · rw [if_pos e] at h; injection h with h; subst e; exact ⟨by simp, h.symm⟩
    · rw [if_neg e] at h
      obtain ⟨h1, h2⟩ := look_map_slots (env := env) f r t x h
      exact ⟨by simp [h1], h2⟩

theorem Env.ren {n : Nat} {env : List (Nat × AV)} {a : Act} (E : Env S β w n env a) (T : Tab S S' β β' w ρ) {slots : List Nat} (hc : ∀ p, p ∈ renEnvC ρ env slots → p) : Env S' β' w n (renEnv ρ env slots) a := by
  refine ⟨E.1, E.2.1, fun t => ?_⟩
  unfold lookD
  cases hl : look (renEnv ρ env slots) t with
  | none => exact .dead _
  | some x =>
    obtain ⟨h1, h2⟩ := look_map_slots (env := env) _ slots t x hl
    subst h2
    exact (E.2.2 t).ren T fun p hp => hc p (List.mem_flatMap.2 ⟨t, h1, hp⟩)

theorem renSt_le {n : Nat} {slots : List Nat} {tb : List (Nat × Rk)} {st st' : St} {cs : List Prop} (h : renSt slots tb st = Option.some (st', cs)) (hc : ∀ p, p ∈ cs → p) : Le n st st' := by
  unfold renSt at h
  split at h
  · rename_i hag
    obtain ⟨ha, hg⟩ := hag
    cases hr : resolve st.hp tb with
    | none => rw [hr] at h; cases h
    | some ρ =>
      rw [hr] at h
      injection h with h
      simp only [Prod.mk.injEq] at h
      obtain ⟨rfl, rfl⟩ := h
      intro F a w ⟨S, β, E, M⟩
      obtain ⟨S', β', T, M'⟩ := M.ren hg ha hr fun p hp => hc p (List.mem_append_right _ hp)
      exact ⟨S', β', E.ren T fun p hp => hc p (List.mem_append_left _ hp), M'⟩
  · cases h

end
end Go.Ped
