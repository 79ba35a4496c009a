/-
  The engine, part 3: how memory goes on: a new piece; a piece that turns; a piece whose block another one takes over. Plain text.
-/
import Derived.Test.YthhfolohakiemaaGreatDoorOps
set_option linter.unusedVariables false
namespace Go.Ped
open Go.RowKit

def putAll (hp : List (Nat × Ob)) (upd : List (Nat × Ob)) : List (Nat × Ob) := upd.foldl (fun h x => putL h x.1 x.2) hp

theorem putAll_nil (hp : List (Nat × Ob)) : putAll hp [] = hp := rfl
theorem putAll_one (hp : List (Nat × Ob)) (d : Nat) (o : Ob) : putAll hp [(d, o)] = putL hp d o := rfl

/-- The table with one piece more. -/
def Beta.add (β : Beta) (d : Nat) (bi : Bl) : Beta := fun i => if i = d then some bi else β i

theorem Beta.add_same (β : Beta) (d : Nat) (bi : Bl) : β.add d bi d = some bi := by simp [Beta.add]
theorem Beta.add_ext {β : Beta} {d : Nat} {bi : Bl} (h : β d = none) : ∀ i b, β i = some b → β.add d bi i = some b := by
  intro i b hb
  unfold Beta.add
  by_cases e : i = d
  · subst e; rw [h] at hb; cases hb
  · rw [if_neg e]; exact hb
theorem Beta.add_cases {β : Beta} {d : Nat} {bi : Bl} {i : Nat} {b : Bl} (h : β.add d bi i = some b) : (i = d ∧ b = bi) ∨ (i ≠ d ∧ β i = some b) := by
  unfold Beta.add at h
  by_cases e : i = d
  · rw [if_pos e] at h; injection h with h; exact .inl ⟨e, h.symm⟩
  · rw [if_neg e] at h; exact .inr ⟨e, h⟩

section
variable {F : Fr} {S : Blk} {β : Beta} {hp : List (Nat × Ob)} {w w' : World}

theorem Mem.beta_none (M : Mem F S β hp w) {d : Nat} (h : look hp d = none) : β d = none := by
  cases hb : β d with
  | none => rfl
  | some bi => obtain ⟨o, ho⟩ := M.dom d bi hb; rw [h] at ho; cases ho

/-- A new block for a new piece. -/
theorem Mem.alloc (M : Mem F S β hp w) {d : Nat} (hd : look hp d = none) (ob : Obj) (o : Ob) (sz cap : Nat)
    (ho : HO S (β.add d ⟨w.heap.size, sz, cap⟩) (w.alloc ob) d o) :
    Ext S S β (β.add d ⟨w.heap.size, sz, cap⟩) w (w.alloc ob) ∧ Mem F S (β.add d ⟨w.heap.size, sz, cap⟩) (putL hp d o) (w.alloc ob) := by
  have hb := M.beta_none hd
  have hagr : Agr S w (w.alloc ob) := fun b hb => heap_alloc_old w ob (M.sub b hb)
  refine ⟨⟨fun _ h => h, Beta.add_ext hb, hagr⟩, ?_⟩
  refine ⟨M.tab, M.os, M.tape, M.output, by have := M.size; simp; omega, fun b h1 h2 => ?_, fun id x hx => ?_, fun id bi hi => ?_, fun i j bi bj hi hj h1 h2 h3 => ?_, fun i bi hi => ?_, fun b hb => ?_, M.base, M.new, fun i b h1 h2 => Beta.add_ext hb i b (M.giv i b h1 h2)⟩
  · rw [heap_alloc_old w ob (by have := M.size; omega)]; exact M.keep b h1 h2
  · rw [look_put] at hx
    by_cases e : d = id
    · subst e; rw [if_pos rfl] at hx; injection hx with hx; subst hx; exact ho
    · rw [if_neg e] at hx
      exact (M.obs id x hx).mono (fun _ h => h) (Beta.add_ext hb) hagr (fun bi hi => heap_alloc_old w ob (M.own id bi hi).2.1)
  · rw [look_put]
    by_cases e : d = id
    · exact ⟨o, by rw [if_pos e]⟩
    · rw [if_neg e]
      rcases Beta.add_cases hi with ⟨e', _⟩ | ⟨_, hi⟩
      · exact absurd e'.symm e
      · exact M.dom id bi hi
  · rcases Beta.add_cases hi with ⟨e1, b1⟩ | ⟨e1, hi⟩ <;> rcases Beta.add_cases hj with ⟨e2, b2⟩ | ⟨e2, hj⟩
    · rw [e1, e2]
    · have := (M.own j bj hj).2.1; rw [b1] at h3; simp only at h3; omega
    · have := (M.own i bi hi).2.1; rw [b2] at h3; simp only at h3; omega
    · refine M.inj i j bi bj hi hj (fun x hx => h1 x ?_) (fun x hx => h2 x ?_) h3
      · rw [look_put, if_neg (Ne.symm e1)]; exact hx
      · rw [look_put, if_neg (Ne.symm e2)]; exact hx
  · rcases Beta.add_cases hi with ⟨_, e⟩ | ⟨_, hi⟩
    · subst e
      refine ⟨fun hs => ?_, by simp, .inr M.size⟩
      have := M.sub _ hs
      simp only at this
      omega
    · obtain ⟨h1, h2, h3⟩ := M.own i bi hi
      exact ⟨h1, by simp; omega, h3⟩
  · have := M.sub b hb; simp; omega

/-- A new block for what is only read. -/
theorem Mem.lay (M : Mem F S β hp w) (ob : Obj) : Ext S (fun b => S b ∨ b = w.heap.size) β β w (w.alloc ob) ∧ Mem F (fun b => S b ∨ b = w.heap.size) β hp (w.alloc ob) := by
  have hagr : Agr S w (w.alloc ob) := fun b hb => heap_alloc_old w ob (M.sub b hb)
  refine ⟨⟨fun _ h => .inl h, fun _ _ h => h, hagr⟩, ?_⟩
  refine ⟨M.tab, M.os, M.tape, M.output, by have := M.size; simp; omega, fun b h1 h2 => ?_, fun id x hx => ?_, M.dom, M.inj, fun i bi hi => ?_, fun b hb => ?_, fun b hb => .inl (M.base b hb), fun b hb => ?_, M.giv⟩
  · rw [heap_alloc_old w ob (by have := M.size; omega)]; exact M.keep b h1 h2
  · exact (M.obs id x hx).mono (fun _ h => .inl h) (fun _ _ h => h) hagr (fun bi hi => heap_alloc_old w ob (M.own id bi hi).2.1)
  · obtain ⟨h1, h2, h3⟩ := M.own i bi hi
    refine ⟨?_, by simp; omega, h3⟩
    rintro (h | h)
    · exact h1 h
    · omega
  · rcases hb with hb | rfl
    · have := M.sub b hb; simp; omega
    · simp
  · rcases hb with hb | rfl
    · exact M.new b hb
    · exact .inr M.size

/-- A world that differs in the block of one living piece alone. -/
structure Turns (bi : Bl) (w w' : World) : Prop where
  os : w'.os = w.os
  tape : w'.tape = w.tape
  output : w'.output = w.output
  size : w.heap.size ≤ w'.heap.size
  other : ∀ b, b < w.heap.size → b ≠ bi.blk → w'.heap[b]? = w.heap[b]?

theorem Mem.turn (M : Mem F S β hp w) {id : Nat} {bi : Bl} {x : Ob} (hi : β id = some bi) (hx : look hp id = some x) (hd : x ≠ .dead) (T : Turns bi w w') (o : Ob) (ho : HO S β w' id o) :
    Ext S S β β w w' ∧ Mem F S β (putL hp id o) w' := by
  have hagr : Agr S w w' := fun b hb => T.other b (M.sub b hb) (fun e => (M.own id bi hi).1 (e ▸ hb))
  have hlive : ∀ y, look hp id = some y → y ≠ .dead := fun y hy => by rw [hx] at hy; injection hy with hy; exact hy ▸ hd
  refine ⟨⟨fun _ h => h, fun _ _ h => h, hagr⟩, ?_⟩
  refine ⟨M.tab, T.os.trans M.os, T.tape.trans M.tape, T.output.trans M.output, Nat.le_trans M.size T.size, fun b h1 h2 => ?_, fun j y hy => ?_, fun j bj hj => ?_, fun i j b1 b2 h1 h2 h3 h4 h5 => ?_, fun i b1 h1 => ?_, fun b hb => Nat.lt_of_lt_of_le (M.sub b hb) T.size, M.base, M.new, M.giv⟩
  · rw [T.other b (Nat.lt_of_lt_of_le h1 M.size) (fun e => ?_)]; exact M.keep b h1 h2
    rcases (M.own id bi hi).2.2 with ⟨_, h⟩ | h
    · exact h2 (e ▸ h)
    · rw [← e] at h; omega
  · rw [look_put] at hy
    by_cases e : id = j
    · subst e; rw [if_pos rfl] at hy; injection hy with hy; subst hy; exact ho
    · rw [if_neg e] at hy
      by_cases hdy : y = .dead
      · subst hdy; exact M.obs j _ hy
      · refine (M.obs j y hy).mono (fun _ h => h) (fun _ _ h => h) hagr (fun bj hj => T.other _ (M.own j bj hj).2.1 (fun e2 => e ?_))
        exact (M.inj j id bj bi hj hi (fun z hz => by rw [hy] at hz; injection hz with hz; exact hz ▸ hdy) hlive e2).symm
  · rw [look_put]
    by_cases e : id = j
    · exact ⟨o, by rw [if_pos e]⟩
    · rw [if_neg e]; exact M.dom j bj hj
  · have go : ∀ k, (∀ y, look (putL hp id o) k = some y → y ≠ .dead) → ∀ y, look hp k = some y → y ≠ .dead := by
      intro k h y hy
      by_cases e : id = k
      · subst e; exact hlive y hy
      · exact h y (by rw [look_put, if_neg e]; exact hy)
    exact M.inj i j b1 b2 h1 h2 (go i h3) (go j h4) h5
  · obtain ⟨a, b, c⟩ := M.own i b1 h1; exact ⟨a, Nat.lt_of_lt_of_le b T.size, c⟩

/-- A piece dies; another one takes its block over. -/
theorem Mem.adopt (M : Mem F S β hp w) {id d : Nat} {bi bj : Bl} {x : Ob} (hid : id < given ∨ given ≤ d) (hi : β id = some bi) (hx : look hp id = some x) (hd : x ≠ .dead) (hn : look hp d = none) (hblk : bj.blk = bi.blk) (T : Turns bi w w') (o : Ob)
    (ho : HO S (β.add d bj) w' d o) :
    Ext S S β (β.add d bj) w w' ∧ Mem F S (β.add d bj) (putL (putL hp id .dead) d o) w' := by
  have hb := M.beta_none hn
  have hne : id ≠ d := by rintro rfl; rw [hx] at hn; cases hn
  have hagr : Agr S w w' := fun b hb => T.other b (M.sub b hb) (fun e => (M.own id bi hi).1 (e ▸ hb))
  have hlive : ∀ y, look hp id = some y → y ≠ .dead := fun y hy => by rw [hx] at hy; injection hy with hy; exact hy ▸ hd
  refine ⟨⟨fun _ h => h, Beta.add_ext hb, hagr⟩, ?_⟩
  refine ⟨M.tab, T.os.trans M.os, T.tape.trans M.tape, T.output.trans M.output, Nat.le_trans M.size T.size, fun b h1 h2 => ?_, fun j y hy => ?_, fun j bk hj => ?_, fun i j b1 b2 h1 h2 h3 h4 h5 => ?_, fun i b1 h1 => ?_, fun b hb => Nat.lt_of_lt_of_le (M.sub b hb) T.size, M.base, M.new, fun i b h1 h2 => Beta.add_ext hb i b (M.giv i b h1 h2)⟩
  · rw [T.other b (Nat.lt_of_lt_of_le h1 M.size) (fun e => ?_)]; exact M.keep b h1 h2
    rcases (M.own id bi hi).2.2 with ⟨_, h⟩ | h
    · exact h2 (e ▸ h)
    · rw [← e] at h; omega
  · rw [look_put] at hy
    by_cases e : d = j
    · subst e; rw [if_pos rfl] at hy; injection hy with hy; subst hy; exact ho
    · rw [if_neg e, look_put] at hy
      by_cases e2 : id = j
      · subst e2; rw [if_pos rfl] at hy; injection hy with hy; subst hy; exact ⟨bi, Beta.add_ext hb _ _ hi⟩
      · rw [if_neg e2] at hy
        by_cases hdy : y = .dead
        · subst hdy; obtain ⟨b, hb'⟩ := M.obs j _ hy; exact ⟨b, Beta.add_ext hb _ _ hb'⟩
        · refine (M.obs j y hy).mono (fun _ h => h) (Beta.add_ext hb) hagr (fun bj hj => T.other _ (M.own j bj hj).2.1 (fun e3 => e2 ?_))
          exact (M.inj j id bj bi hj hi (fun z hz => by rw [hy] at hz; injection hz with hz; exact hz ▸ hdy) hlive e3).symm
  · rw [look_put]
    by_cases e : d = j
    · exact ⟨o, by rw [if_pos e]⟩
    · rw [if_neg e, look_put]
      rcases Beta.add_cases hj with ⟨e', _⟩ | ⟨_, hj⟩
      · exact absurd e'.symm e
      · by_cases e2 : id = j
        · exact ⟨.dead, by rw [if_pos e2]⟩
        · rw [if_neg e2]; exact M.dom j bk hj
  · have dead : ∀ k, k ≠ d → (∀ y, look (putL (putL hp id .dead) d o) k = some y → y ≠ .dead) → k ≠ id := by
      intro k hk h e
      subst e
      exact h .dead (by rw [look_put, if_neg (Ne.symm hk), look_put, if_pos rfl]) rfl
    have go : ∀ k, k ≠ d → (∀ y, look (putL (putL hp id .dead) d o) k = some y → y ≠ .dead) → ∀ y, look hp k = some y → y ≠ .dead := by
      intro k hk h y hy
      exact h y (by rw [look_put, if_neg (Ne.symm hk), look_put, if_neg (Ne.symm (dead k hk h))]; exact hy)
    rcases Beta.add_cases h1 with ⟨e1, c1⟩ | ⟨e1, h1⟩ <;> rcases Beta.add_cases h2 with ⟨e2, c2⟩ | ⟨e2, h2⟩
    · rw [e1, e2]
    · rw [c1, hblk] at h5
      exact absurd (M.inj id j bi b2 hi h2 hlive (go j e2 h4) h5).symm (dead j e2 h4)
    · rw [c2, hblk] at h5
      exact absurd (M.inj i id b1 bi h1 hi (go i e1 h3) hlive h5) (dead i e1 h3)
    · exact M.inj i j b1 b2 h1 h2 (go i e1 h3) (go j e2 h4) h5
  · rcases Beta.add_cases h1 with ⟨ei, e⟩ | ⟨_, h1⟩
    · subst e
      obtain ⟨a, b, c⟩ := M.own id bi hi
      rw [hblk]
      refine ⟨a, Nat.lt_of_lt_of_le b T.size, ?_⟩
      rcases c with ⟨c, cm⟩ | c
      · rcases hid with hid | hid
        · exact absurd c (Nat.not_le.2 hid)
        · exact .inl ⟨ei ▸ hid, cm⟩
      · exact .inr c
    · obtain ⟨a, b, c⟩ := M.own i b1 h1; exact ⟨a, Nat.lt_of_lt_of_le b T.size, c⟩

/-- A piece dies, and a new block is laid for another one. -/
theorem Mem.kill (M : Mem F S β hp w) {id : Nat} (hx : ∃ x, look hp id = some x) : Mem F S β (putL hp id .dead) w := by
  obtain ⟨x, hx⟩ := hx
  have hbi : ∃ bi, β id = some bi := by
    have := M.obs id x hx
    cases x with
    | var cs => obtain ⟨bi, h, _⟩ := this; exact ⟨bi, h⟩
    | row sz es => obtain ⟨bi, h, _⟩ := this; exact ⟨bi, h⟩
    | map ks vs => obtain ⟨bi, es, cl, h, _⟩ := this; exact ⟨bi, h⟩
    | dead => exact this
  refine ⟨M.tab, M.os, M.tape, M.output, M.size, M.keep, fun j y hy => ?_, fun j bj hj => ?_, fun i j b1 b2 h1 h2 h3 h4 h5 => ?_, M.own, M.sub, M.base, M.new, M.giv⟩
  · rw [look_put] at hy
    by_cases e : id = j
    · subst e; rw [if_pos rfl] at hy; injection hy with hy; subst hy; exact hbi
    · rw [if_neg e] at hy; exact M.obs j y hy
  · rw [look_put]
    by_cases e : id = j
    · exact ⟨.dead, by rw [if_pos e]⟩
    · rw [if_neg e]; exact M.dom j bj hj
  · have go : ∀ k, (∀ y, look (putL hp id .dead) k = some y → y ≠ .dead) → ∀ y, look hp k = some y → y ≠ .dead := by
      intro k h y hy
      by_cases e : id = k
      · subst e; exact absurd rfl (h .dead (by rw [look_put, if_pos rfl]))
      · exact h y (by rw [look_put, if_neg e]; exact hy)
    exact M.inj i j b1 b2 h1 h2 (go i h3) (go j h4) h5

end

end Go.Ped
