/-
  The engine, part 18: pieces change their numbers, are forgotten, or are put away: from then on they are only read.
-/
import Derived.Test.YthhfolohakiemaaGreatDoorCode
set_option linter.unusedVariables false
namespace Go.Ped
open Go.RowKit

/-- What becomes of a piece's number. -/
inductive Rn where
  | keep (j : Nat)
  | row (es : List AV)
  | var (cs : List AV)
  | map (ks vs : List AV)

mutual
/-- It holds no numbers of pieces. -/
def noIds : AV → Bool
  | .agg cs => noIdsL cs
  | .tup cs => noIdsL cs
  | .clo _ a b => noIdsL a && noIdsL b
  | .iface _ v => noIds v
  | .row _ _ _ => false
  | .elt _ _ _ => false
  | .map _ => false
  | _ => true
def noIdsL : List AV → Bool
  | [] => true
  | x :: r => noIds x && noIdsL r
end

mutual
def ren (ρ : List (Nat × Rn)) : AV → AV
  | .agg cs => .agg (renL ρ cs)
  | .tup cs => .tup (renL ρ cs)
  | .clo f a b => .clo f (renL ρ a) (renL ρ b)
  | .iface t v => .iface t (ren ρ v)
  | .row id off len => match look ρ id with
    | some (.keep j) => .row j off len
    | some (.row es) => (match off with
      | 0 => .seq es false
      | _ => .dead)
    | _ => .dead
  | .elt id k off => match look ρ id with
    | some (.keep j) => .elt j k off
    | some (.var cs) => (match k with
      | 0 => .tptr (cs.drop off)
      | _ => .dead)
    | _ => .dead
  | .map id => match look ρ id with
    | some (.keep j) => .map j
    | some (.map ks vs) => .tmap ks vs
    | _ => .dead
  | x => x
def renL (ρ : List (Nat × Rn)) : List AV → List AV
  | [] => []
  | x :: r => ren ρ x :: renL ρ r
end

mutual
/-- What must hold: of what is put away the whole is meant. -/
def renC (ρ : List (Nat × Rn)) : AV → List Prop
  | .agg cs => renCL ρ cs
  | .tup cs => renCL ρ cs
  | .clo f a b => renCL ρ a ++ renCL ρ b
  | .iface t v => renC ρ v
  | .row id off len => match look ρ id with
    | some (.row es) => (match off with
      | 0 => [len = es.length]
      | _ => [])
    | _ => []
  | _ => []
def renCL (ρ : List (Nat × Rn)) : List AV → List Prop
  | [] => []
  | x :: r => renC ρ x ++ renCL ρ r
end

theorem noIdsL_iff : ∀ {l : List AV}, noIdsL l = true ↔ ∀ x, x ∈ l → noIds x = true
  | [] => by simp [noIdsL]
  | x :: r => by
    simp only [noIdsL, Bool.and_eq_true, noIdsL_iff (l := r), List.mem_cons]
    constructor
    · rintro ⟨h1, h2⟩ y (rfl | hy)
      · exact h1
      · exact h2 y hy
    · exact fun h => ⟨h x (.inl rfl), fun y hy => h y (.inr hy)⟩

theorem renL_map (ρ : List (Nat × Rn)) : ∀ (l : List AV), renL ρ l = l.map (ren ρ)
  | [] => rfl
  | x :: r => by simp [renL, renL_map ρ r]

theorem renCL_mem {ρ : List (Nat × Rn)} : ∀ {l : List AV}, (∀ p, p ∈ renCL ρ l → p) → ∀ x, x ∈ l → ∀ p, p ∈ renC ρ x → p
  | [], _, x, hx, _, _ => by simp at hx
  | y :: r, h, x, hx, p, hp => by
    simp only [renCL] at h
    rcases List.mem_cons.1 hx with rfl | hx
    · exact h p (List.mem_append_left _ hp)
    · exact renCL_mem (fun q hq => h q (List.mem_append_right _ hq)) x hx p hp

mutual
theorem ren_noIds (ρ : List (Nat × Rn)) : ∀ (x : AV), noIds x = true → ren ρ x = x
  | .agg cs, h => by simp only [ren]; rw [renL_noIds ρ cs h]
  | .tup cs, h => by simp only [ren]; rw [renL_noIds ρ cs h]
  | .clo f a b, h => by
    simp only [noIds, Bool.and_eq_true] at h
    simp only [ren]; rw [renL_noIds ρ a h.1, renL_noIds ρ b h.2]
  | .iface t v, h => by simp only [ren]; rw [ren_noIds ρ v h]
  | .row _ _ _, h => by cases h
  | .elt _ _ _, h => by cases h
  | .map _, h => by cases h
  | .int _ _, _ => rfl
  | .bool _, _ => rfl
  | .str _, _ => rfl
  | .seq _ _, _ => rfl
  | .tptr _, _ => rfl
  | .nilp, _ => rfl
  | .tmap _ _, _ => rfl
  | .nilmap, _ => rfl
  | .nils, _ => rfl
  | .nilf, _ => rfl
  | .nili, _ => rfl
  | .dead, _ => rfl
theorem renL_noIds (ρ : List (Nat × Rn)) : ∀ (l : List AV), noIdsL l = true → renL ρ l = l
  | [], _ => rfl
  | x :: r, h => by
    simp only [noIdsL, Bool.and_eq_true] at h
    simp only [renL]
    rw [ren_noIds ρ x h.1, renL_noIds ρ r h.2]
end

theorem cells_one {y : AV} (h : ∀ cs, y ≠ .agg cs) : y.cells = [y] := by
  cases y with
  | agg cs => exact absurd rfl (h cs)
  | _ => rfl

theorem cells_ren (ρ : List (Nat × Rn)) (x : AV) : (ren ρ x).cells = renL ρ x.cells := by
  cases x with
  | agg cs => rfl
  | row id off len =>
    refine (cells_one fun cs h => ?_).trans rfl
    simp only [ren] at h
    split at h
    · cases h
    · split at h <;> cases h
    · cases h
  | elt id k off =>
    refine (cells_one fun cs h => ?_).trans rfl
    simp only [ren] at h
    split at h
    · cases h
    · split at h <;> cases h
    · cases h
  | map id =>
    refine (cells_one fun cs h => ?_).trans rfl
    simp only [ren] at h
    split at h <;> cases h
  | _ => rfl

section
variable {S S' : Blk} {β β' : Beta} {w : World} {ρ : List (Nat × Rn)}

theorem V.noIds {v : Value} {x : AV} (h : V S β w v x) : Ped.noIds x = true → V S noB w v x := by
  induction h with
  | int k n => intro _; exact .int k n
  | bool b => intro _; exact .bool b
  | str s => intro _; exact .str s
  | agg vs cs hl h ih => intro hn; exact .agg vs cs hl fun i v c h1 h2 => ih i v c h1 h2 (noIdsL_iff.1 hn c (List.mem_of_getElem? h2))
  | tup vs cs hl h ih => intro hn; exact .tup vs cs hl fun i v c h1 h2 => ih i v c h1 h2 (noIdsL_iff.1 hn c (List.mem_of_getElem? h2))
  | seq p cap sz b o es clip U hcap hmax hclip hp hsz hc hv ih => intro _; exact .seq p cap sz b o es clip U hcap hmax hclip hp hsz hc hv
  | row id off len a bi hb hle ha' => intro hn; cases hn
  | tptr b o cs U hb hc hv ih => intro _; exact .tptr b o cs U hb hc hv
  | elt id k off bi hb => intro hn; cases hn
  | nilp => intro _; exact .nilp
  | map id bi hb => intro hn; cases hn
  | tmap r es cl ks vs hb hr hk hl hkv hvv ih1 ih2 => intro _; exact .tmap r es cl ks vs hb hr hk hl hkv hvv
  | nilmap => intro _; exact .nilmap
  | nils => intro _; exact .nils
  | clo f fs gs first cap hf hg hfv hgv ih1 ih2 =>
    intro hn
    simp only [Ped.noIds, Bool.and_eq_true] at hn
    exact .clo f fs gs first cap hf hg (fun i v c h1 h2 => ih1 i v c h1 h2 (noIdsL_iff.1 hn.1 c (List.mem_of_getElem? h2))) (fun i v c h1 h2 => ih2 i v c h1 h2 (noIdsL_iff.1 hn.2 c (List.mem_of_getElem? h2)))
  | nilf => intro _; exact .nilf
  | iface t v x h ih => intro hn; exact .iface t v x (ih hn)
  | nili => intro _; exact .nili
  | dead v => intro _; exact .dead v

/-- The pieces that keep a number stand where they stood; the others lie among what is read. -/
structure Tab (S S' : Blk) (β β' : Beta) (w : World) (ρ : List (Nat × Rn)) : Prop where
  hS : ∀ b, S b → S' b
  keep : ∀ id j bi, look ρ id = some (.keep j) → β id = some bi → β' j = some bi
  row : ∀ id es bi, look ρ id = some (.row es) → β id = some bi → S' bi.blk ∧ HR S' noB w bi es
  var : ∀ id cs bi, look ρ id = some (.var cs) → β id = some bi → S' bi.blk ∧ HR S' noB w bi [.agg cs]
  map : ∀ id ks vs bi, look ρ id = some (.map ks vs) → β id = some bi → S' bi.blk ∧ ∃ es cl, w.heap[bi.blk]? = some (.map es cl) ∧ ks.length = es.size ∧ vs.length = es.size ∧
      (∀ (i : Nat) e k, es[i]? = some e → ks[i]? = some k → V S' noB w e.key k) ∧ ∀ (i : Nat) e v, es[i]? = some e → vs[i]? = some v → V S' noB w e.val v

theorem renL_get {l : List AV} {i : Nat} {c : AV} (h : (renL ρ l)[i]? = some c) : ∃ c0, l[i]? = some c0 ∧ c = ren ρ c0 := by
  rw [renL_map, List.getElem?_map] at h
  cases hl : l[i]? with
  | none => rw [hl] at h; cases h
  | some c0 => rw [hl] at h; injection h with h; exact ⟨c0, rfl, h.symm⟩

theorem V.ren (T : Tab S S' β β' w ρ) {v : Value} {x : AV} (h : V S β w v x) : (∀ p, p ∈ renC ρ x → p) → V S' β' w v (ren ρ x) := by
  have each : ∀ {vs : List Value} {cs : List AV}, vs.length = cs.length → (∀ (i : Nat) v c, vs[i]? = some v → cs[i]? = some c → V S' β' w v (Ped.ren ρ c)) →
      vs.length = (renL ρ cs).length ∧ ∀ (i : Nat) v c, vs[i]? = some v → (renL ρ cs)[i]? = some c → V S' β' w v c := by
    intro vs cs hl h
    refine ⟨by rw [renL_map, List.length_map]; exact hl, fun i v c h1 h2 => ?_⟩
    obtain ⟨c0, h3, rfl⟩ := renL_get h2
    exact h i v c0 h1 h3
  have low : ∀ {v : Value} {x : AV}, V S noB w v x → V S' β' w v x := fun h => h.mono T.hS (fun _ _ h => by cases h) (Agr.refl S w)
  induction h with
  | int k n => intro _; exact .int k n
  | bool b => intro _; exact .bool b
  | str s => intro _; exact .str s
  | agg vs cs hl h ih =>
    intro hp
    obtain ⟨e1, e2⟩ := each hl fun i v c h1 h2 => ih i v c h1 h2 T each low (renCL_mem hp c (List.mem_of_getElem? h2))
    exact .agg vs _ e1 e2
  | tup vs cs hl h ih =>
    intro hp
    obtain ⟨e1, e2⟩ := each hl fun i v c h1 h2 => ih i v c h1 h2 T each low (renCL_mem hp c (List.mem_of_getElem? h2))
    exact .tup vs _ e1 e2
  | seq p cap sz b o es clip U hcap hmax hclip hp hsz hc hv ih => intro _; exact low (.seq p cap sz b o es clip U hcap hmax hclip hp hsz hc hv)
  | row id off len a bi hb hle ha' =>
    intro hp
    unfold Ped.ren
    unfold renC at hp
    split
    · rename_i j hl
      exact .row j off len a bi (T.keep id j bi hl hb) hle ha'
    · rename_i es hl
      rw [hl] at hp
      split
      · have hlen : len = es.length := hp _ (List.mem_singleton.2 rfl)
        subst hlen
        obtain ⟨hS', cur, t, r1, r2, r3, r4, r5, r6⟩ := T.row id es bi hl hb
        rw [Nat.sub_zero]
        refine .seq (some a) bi.cap bi.sz bi.blk 0 es false (fun i j => (cur[i * bi.sz + j]?).getD undef) r3 r4 (fun h => by cases h) (fun hne => ⟨?_, hS'⟩) r5 (fun i j e c h1 h2 => ?_) (fun i j e c h1 h2 => ?_)
        · have hpos : 0 < es.length := List.length_pos_iff.2 hne
          have := ha' (by omega)
          rw [this, Nat.zero_mul]
        · obtain ⟨u, hu, _⟩ := r6 i j e c h1 h2
          rw [Nat.zero_add, cell_row r1, hu]
          rfl
        · obtain ⟨u, hu, hv⟩ := r6 i j e c h1 h2
          rw [hu]
          exact hv
      · exact .dead _
    · exact .dead _
  | tptr b o cs U hb hc hv ih => intro _; exact low (.tptr b o cs U hb hc hv)
  | elt id k off bi hb =>
    intro hp
    unfold Ped.ren
    split
    · rename_i j hl
      exact .elt j k off bi (T.keep id j bi hl hb)
    · rename_i cs hl
      split
      · obtain ⟨hS', hHR⟩ := T.var id cs bi hl hb
        have hat := hHR.at_ (k := 0) (e := .agg cs) rfl off
        obtain ⟨cur, t, r1, r2, r3, r4, r5, r6⟩ := hHR
        refine .tptr bi.blk (0 * bi.sz + off) (cs.drop off) (fun j => (cur[off + j]?).getD undef) hS' (fun j c hj => ?_) (fun j c hj => ?_)
        · obtain ⟨u, hu, _⟩ := hat j c hj
          have hu2 := hu
          rw [cell_row r1, Nat.zero_mul, Nat.zero_add] at hu
          rw [hu2, hu]
          rfl
        · obtain ⟨u, hu, hv⟩ := hat j c hj
          rw [cell_row r1, Nat.zero_mul, Nat.zero_add] at hu
          rw [hu]
          exact hv
      · exact .dead _
    · exact .dead _
  | nilp => intro _; exact .nilp
  | map id bi hb =>
    intro hp
    unfold Ped.ren
    split
    · rename_i j hl
      exact .map j bi (T.keep id j bi hl hb)
    · rename_i ks vs hl
      obtain ⟨hS', es, cl, r1, r2, r3, r4, r5⟩ := T.map id ks vs bi hl hb
      exact .tmap bi.blk es cl ks vs hS' r1 r2 r3 r4 r5
    · exact .dead _
  | tmap r es cl ks vs hb hr hk hl hkv hvv ih1 ih2 => intro _; exact low (.tmap r es cl ks vs hb hr hk hl hkv hvv)
  | nilmap => intro _; exact .nilmap
  | nils => intro _; exact .nils
  | clo f fs gs first cap hf hg hfv hgv ih1 ih2 =>
    intro hp
    simp only [renC] at hp
    obtain ⟨e1, e2⟩ := each hf fun i v c h1 h2 => ih1 i v c h1 h2 T each low (renCL_mem (fun p hq => hp p (List.mem_append_left _ hq)) c (List.mem_of_getElem? h2))
    obtain ⟨e3, e4⟩ := each hg fun i v c h1 h2 => ih2 i v c h1 h2 T each low (renCL_mem (fun p hq => hp p (List.mem_append_right _ hq)) c (List.mem_of_getElem? h2))
    exact .clo f fs gs _ _ e1 e3 e2 e4
  | nilf => intro _; exact .nilf
  | iface t v x h ih => intro hp; exact .iface t v _ (ih T each low hp)
  | nili => intro _; exact .nili
  | dead v => intro _; exact .dead v

end
end Go.Ped
