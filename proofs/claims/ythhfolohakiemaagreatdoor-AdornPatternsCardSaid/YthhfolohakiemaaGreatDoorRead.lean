/-
  From the reading of a call's arguments to values without addresses: what a call is handed is read-only.
-/
import Derived.Test.YthhfolohakiemaaGreatDoorPat3
import Derived.WalkKit
import Derived.ProofKit
import Derived.OpenShut
import Derived.Deep.DeepHandedRow
import Derived.Deep.Slices
import Derived.Lib.LaidTab
import Derived.Carry
import Derived.SizedLaws
set_option linter.unusedVariables false
set_option linter.unnecessarySimpa false
set_option linter.unusedSimpArgs false
namespace Go.Ped
open Go.RowKit Go.Proofs Go.WideShapes Go.Deep

/-- All that lies there when a call begins. -/
def allB (w : World) : Blk := fun b => b < w.heap.size

theorem cell_lt {w : World} {a : Addr} {v : Value} (h : w.cell? a = some v) : a.block < w.heap.size := by
  unfold World.cell? at h
  split at h
  · rename_i c t fz hw
    exact (Array.getElem?_eq_some_iff.1 hw).1
  · cases h

section
variable {H : Type} {enc : TypeId × Value → H} {P : Program} {w : World} {base : Nat} {sp : Nat → Bool} {held : Bool}

/-- A slice that reads stands for a list. -/
theorem V_slice {X : Type} [Inhabited X] (f : X → AV) {t e : TypeId} {size fuel : Nat} {cs : List Value} {x : DataW H × List MemPlace} (ht : P.underlying t = some (.slice e)) (hc : P.cellsOf e = size) (hpos : 0 < size)
    (helem : ∀ (n : Nat) (cs : List Value) (y : DataW H × List MemPlace), DataW.trod enc P w base sp held n e cs = some y → ∃ q : X, Each (allB w) noB w cs (f q).cells ∧ (f q).cells.length = size)
    (h : DataW.trod enc P w base sp held fuel t cs = some x) :
    ∃ (v : Value) (l : List X), cs = [v] ∧ V (allB w) noB w v (.seq (l.map f) false) ∧ ((x.1 = .nil ∧ l = []) ∨ ∃ elems spare, x.1 = .slice elems spare ∧ elems.length = l.length) := by
  rcases open_slice ht h with ⟨rfl, rfl⟩ | ⟨a, len, cap, m, n, D, Pl, rfl, hb, hl, hm, hmm, rfl, hx⟩
  · exact ⟨_, [], rfl, .seq none 0 0 0 0 [] false (fun _ _ => undef) (by simp) (by simp [maxLen]) (fun h => by cases h) (fun h => absurd rfl h) (by simp) (by simp) (by simp), .inl ⟨rfl, rfl⟩⟩
  · have hlm : len ≤ m := by rw [hmm]; split <;> omega
    obtain ⟨C, hC⟩ := choose_lt (α := List Value) (n := len) (p := fun i cs' => w.cells? base (a.add (i * P.cellsOf e)) (P.cellsOf e) = some cs' ∧ ∃ y, DataW.trod enc P w base sp held n e cs' = some y) (fun i hi => by
      obtain ⟨cs', h1, h2⟩ := hx i (by omega)
      exact ⟨cs', h1, _, h2⟩)
    obtain ⟨Q, hQ⟩ := choose_lt (α := X) (n := len) (p := fun i q => Each (allB w) noB w (C i) (f q).cells ∧ (f q).cells.length = size) (fun i hi => by
      obtain ⟨_, y, hy⟩ := hC i hi
      exact helem n _ y hy)
    have raw : ∀ i j, i < len → j < size → ∃ u, (C i)[j]? = some u ∧ w.cell? (a.add (i * size + j)) = some u := by
      intro i j hi hj
      obtain ⟨h1, _⟩ := hC i hi
      obtain ⟨_, h2, h3⟩ := World.cells?_some h1
      rw [hc] at h2 h3
      have h4 := h3 j hj
      have hlt : j < (C i).length := by omega
      refine ⟨(C i)[j], List.getElem?_eq_getElem hlt, ?_⟩
      rw [List.getElem?_eq_getElem hlt, add_add] at h4
      exact h4
    have hspot : 0 < len → a.spot = none := by
      intro h0
      obtain ⟨u, _, h2⟩ := raw 0 0 h0 hpos
      have := World.cell?_spot h2
      simpa [Addr.add] using this
    have hcell : ∀ i j, i < len → j < size → ∃ u, (C i)[j]? = some u ∧ w.cell? ⟨a.block, a.off + i * size + j, none⟩ = some u := by
      intro i j hi hj
      obtain ⟨u, h1, h2⟩ := raw i j hi hj
      have hsp := hspot (by omega)
      refine ⟨u, h1, ?_⟩
      obtain ⟨b, o, s⟩ := a
      simp only at hsp
      subst hsp
      rw [Addr.add_lit, ← Nat.add_assoc] at h2
      exact h2
    refine ⟨_, (List.range len).map Q, rfl, ?_, .inr ⟨_, _, rfl, by simp⟩⟩
    have hlen : ((List.range len).map Q).length = len := by simp
    have get : ∀ {i : Nat} {e' : AV}, (((List.range len).map Q).map f)[i]? = some e' → i < len ∧ e' = f (Q i) := by
      intro i e' he
      rw [List.getElem?_map, List.getElem?_map] at he
      have hi : i < len := by
        apply Nat.lt_of_not_le
        intro h
        rw [List.getElem?_eq_none (by simpa using h)] at he
        cases he
      rw [List.getElem?_range hi] at he
      simp only [Option.map_some] at he
      injection he with he
      exact ⟨hi, he.symm⟩
    have hV := V.seq (S := allB w) (β := noB) (w := w) (some a) cap size a.block a.off (((List.range len).map Q).map f) false (fun i j => (C i).getD j undef) (by simpa using hl) hm (fun h => by cases h)
      (fun hne => by
        have h0 : 0 < len := by
          apply Nat.pos_of_ne_zero
          rintro rfl
          exact hne rfl
        obtain ⟨u, _, h2⟩ := hcell 0 0 h0 hpos
        have h3 := hspot h0
        have hlt := cell_lt h2
        obtain ⟨b, o, s⟩ := a
        simp only at h3
        subst h3
        exact ⟨rfl, hlt⟩)
      (fun i e' he => by
        obtain ⟨hi, rfl⟩ := get he
        exact (hQ i hi).2)
      (fun i j e' c he hcj => by
        obtain ⟨hi, rfl⟩ := get he
        have hj : j < size := by rw [← (hQ i hi).2]; exact (List.getElem?_eq_some_iff.1 hcj).1
        obtain ⟨u, h1, h2⟩ := hcell i j hi hj
        rw [List.getD_eq_getElem?_getD, h1]
        exact h2)
      (fun i j e' c he hcj => by
        obtain ⟨hi, rfl⟩ := get he
        have hj : j < size := by rw [← (hQ i hi).2]; exact (List.getElem?_eq_some_iff.1 hcj).1
        obtain ⟨u, h1, _⟩ := hcell i j hi hj
        rw [List.getD_eq_getElem?_getD, h1]
        exact (hQ i hi).1.2 j u c h1 hcj)
    simpa using hV

theorem Each.one1 {S : Blk} {β : Beta} {v : Value} {x : AV} (h : V S β w v x) : Each S β w [v] [x] := by
  refine ⟨rfl, fun i u c h1 h2 => ?_⟩
  match i with
  | 0 => simp at h1 h2; subst h1; subst h2; exact h
  | i + 1 => simp at h1

/-- A text that reads. -/
theorem E_str {t : TypeId} {fuel : Nat} {cs : List Value} {x : DataW H × List MemPlace} (ht : P.underlying t = some .string) (h : DataW.trod enc P w base sp held fuel t cs = some x) : ∃ s : ByteArray, cs = [.string s] ∧ x.1 = .lit (.string s.data.toList) := by
  obtain ⟨s, h1, h2, _⟩ := DataW.trod_string ht h
  exact ⟨s, h1, by rw [h2]⟩

end
end Go.Ped
