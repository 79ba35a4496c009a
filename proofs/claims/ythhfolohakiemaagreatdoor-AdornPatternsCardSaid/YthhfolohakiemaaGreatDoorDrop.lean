/-
  The engine, part 20c: pieces are forgotten.
-/
import Derived.Test.YthhfolohakiemaaGreatDoorCall2
set_option linter.unusedVariables false
namespace Go.Ped
open Go.RowKit

/-- These pieces alone are kept on. -/
def dropHp (hp : List (Nat × Ob)) (ks : List Nat) : List (Nat × Ob) :=
  let l := hp.filter fun x => ks.contains x.1
  l.map fun x => (x.1, renOb (idT l) x.2)

def dropAV (hp : List (Nat × Ob)) (ks : List Nat) (x : AV) : AV := ren (idT (hp.filter fun x => ks.contains x.1)) x

def dropSt (st : St) (ks : List Nat) : St := ⟨st.env.map fun x => (x.1, dropAV st.hp ks x.2), dropHp st.hp ks⟩

theorem look_filter {hp : List (Nat × Ob)} {ks : List Nat} (k : Nat) : look (hp.filter fun x => ks.contains x.1) k = if ks.contains k then look hp k else none := by
  induction hp with
  | nil => simp [look]
  | cons x r ih =>
    obtain ⟨i, o⟩ := x
    simp only [List.filter_cons]
    by_cases hi : ks.contains i = true
    · rw [if_pos hi]
      simp only [look]
      by_cases e : i = k
      · subst e; rw [if_pos rfl, if_pos hi, if_pos rfl]
      · rw [if_neg e, if_neg e, ih]
    · rw [if_neg hi, ih]
      simp only [look]
      by_cases e : i = k
      · subst e; rw [if_neg hi, if_neg hi]
      · rw [if_neg e]

theorem look_mapv {α γ : Type} (f : Nat → α → γ) : ∀ (l : List (Nat × α)) (k : Nat), look (l.map fun x => (x.1, f x.1 x.2)) k = (look l k).map (f k)
  | [], k => rfl
  | (i, y) :: r, k => by
    simp only [List.map_cons, look]
    by_cases e : i = k
    · subst e; rw [if_pos rfl, if_pos rfl]; rfl
    · rw [if_neg e, if_neg e]; exact look_mapv f r k

section
variable {F : Fr} {S : Blk} {β : Beta} {hp : List (Nat × Ob)} {w : World} {ks : List Nat}

def dropB (β : Beta) (ks : List Nat) : Beta := fun i => if ks.contains i then β i else none

theorem dropB_some {i : Nat} {b : Bl} (h : dropB β ks i = some b) : ks.contains i = true ∧ β i = some b := by
  unfold dropB at h
  split at h
  · rename_i hk; exact ⟨hk, h⟩
  · cases h

theorem drop_tab : Tab S S β (dropB β ks) w (idT (hp.filter fun x => ks.contains x.1)) := by
  refine ⟨fun _ h => h, fun id j bi hj hb => ?_, fun id es bi hj => ?_, fun id cs bi hj => ?_, fun id ks vs bi hj => ?_⟩
  · obtain ⟨e, o, ho⟩ := look_idT hj
    injection e with e
    subst e
    rw [look_filter] at ho
    unfold dropB
    split at ho
    · rename_i hk; rw [if_pos hk]; exact hb
    · cases ho
  · obtain ⟨e, _⟩ := look_idT hj; cases e
  · obtain ⟨e, _⟩ := look_idT hj; cases e
  · obtain ⟨e, _⟩ := look_idT hj; cases e

theorem look_dropHp (k : Nat) : look (dropHp hp ks) k = if ks.contains k then (look hp k).map (renOb (idT (hp.filter fun x => ks.contains x.1))) else none := by
  unfold dropHp
  have := look_mapv (fun (_ : Nat) o => renOb (idT (hp.filter fun x => ks.contains x.1)) o) (hp.filter fun x => ks.contains x.1) k
  simp only [this, look_filter]
  split <;> rfl

theorem renOb_dead {ρ : List (Nat × Rn)} {o : Ob} (h : renOb ρ o = .dead) : o = .dead := by
  cases o <;> simp [renOb] at h ⊢

theorem Mem.drop (M : Mem F S β hp w) (hk : ∀ i b, F.β0 i = some b → i ∈ ks) : Mem F S (dropB β ks) (dropHp hp ks) w := by
  have live : ∀ {i : Nat}, ks.contains i = true → (∀ o, look (dropHp hp ks) i = some o → o ≠ .dead) → ∀ o, look hp i = some o → o ≠ .dead := by
    intro i hi h o ho hd
    subst hd
    exact h _ (by rw [look_dropHp, if_pos hi, ho]; rfl) rfl
  refine ⟨M.tab, M.os, M.tape, M.output, M.size, M.keep, fun id o h => ?_, fun id bi h => ?_, fun i j bi bj hi hj h1 h2 h3 => ?_, fun i bi hi => M.own i bi (dropB_some hi).2, M.sub, M.base, M.new, fun i b h1 h2 => ?_⟩
  · rw [look_dropHp] at h
    split at h
    · rename_i hk'
      obtain ⟨o0, h1, h2⟩ := Option.map_eq_some_iff.1 h
      subst h2
      exact (M.obs id o0 h1).ren drop_tab (by unfold dropB; rw [if_pos hk']) (by rw [obC_id]; simp)
    · cases h
  · obtain ⟨h1, h2⟩ := dropB_some h
    obtain ⟨o, ho⟩ := M.dom id bi h2
    exact ⟨_, by rw [look_dropHp, if_pos h1, ho]; rfl⟩
  · obtain ⟨a1, a2⟩ := dropB_some hi
    obtain ⟨b1, b2⟩ := dropB_some hj
    exact M.inj i j bi bj a2 b2 (live a1 h1) (live b1 h2) h3
  · unfold dropB
    rw [if_pos (by simpa using hk i b h2)]
    exact M.giv i b h1 h2

theorem dropSt_at {n : Nat} {st : St} {a : Act} {w : World} (hk : ∀ i b, F.β0 i = some b → i ∈ ks) (h : At F n st a w) : At F n (dropSt st ks) a w := by
  obtain ⟨S, β, E, M⟩ := h
  refine ⟨S, dropB β ks, ⟨E.1, E.2.1, fun t => ?_⟩, M.drop hk⟩
  unfold lookD
  have := look_mapv (fun (_ : Nat) x => dropAV st.hp ks x) st.env t
  simp only [dropSt, this]
  have hv := E.2.2 t
  unfold lookD at hv
  cases hl : look st.env t with
  | none => exact .dead _
  | some x =>
    rw [hl] at hv
    exact hv.ren drop_tab (by rw [renC_id]; simp)

end
end Go.Ped
