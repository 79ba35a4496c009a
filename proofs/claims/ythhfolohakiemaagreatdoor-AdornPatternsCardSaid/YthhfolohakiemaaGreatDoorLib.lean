/-
  The engine, part 22: small laws for the ones who prove.
-/
import Derived.Test.YthhfolohakiemaaGreatDoorPath
set_option linter.unusedVariables false
namespace Go.Ped
open Go.RowKit

theorem wrap64_id {n : Int} (h1 : 0 ≤ n) (h2 : n < 9223372036854775808) : IntKind.wrap .i64 n = n := by
  simp only [IntKind.wrap, IntKind.bits, IntKind.signed]
  simp
  omega

theorem get_map {α β : Type} (f : α → β) {l : List α} {i : Nat} {x : α} (h : l[i]? = some x) : (l.map f)[i]? = some (f x) := by
  rw [List.getElem?_map, h]; rfl

/-- A text is among texts. -/
def hasT (l : List ByteArray) (s : ByteArray) : Bool := l.any fun x => decide (x = s)

theorem hasT_iff {l : List ByteArray} {s : ByteArray} : hasT l s = true ↔ s ∈ l := by
  unfold hasT
  rw [List.any_eq_true]
  constructor
  · rintro ⟨x, hx, h⟩
    have : x = s := by simpa using h
    exact this ▸ hx
  · exact fun h => ⟨s, h, by simp⟩

theorem hasT_false {l : List ByteArray} {s : ByteArray} (h : s ∉ l) : hasT l s = false := by
  cases h' : hasT l s with
  | false => rfl
  | true => exact absurd (hasT_iff.1 h') h

end Go.Ped
