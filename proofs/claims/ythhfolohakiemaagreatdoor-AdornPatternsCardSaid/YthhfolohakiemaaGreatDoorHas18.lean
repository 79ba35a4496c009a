import Derived.Test.YthhfolohakiemaaGreatDoorLib
import Derived.Test.YthhfolohakiemaaGreatDoorShelf
set_option linter.unusedVariables false
namespace Go.Ped
open Go.Proofs

theorem has_next (l : List ByteArray) (c : Bool) (s x : ByteArray) (i : Nat) (h : (decide ((↑i : Int) < (↑(List.length (List.map AV.str l)) : Int)) = true) ∧ (0 ≤ (↑i : Int) ∧ (List.map AV.str l)[Int.toNat (↑i : Int)]? = some (AV.str x)) ∧ (decide (x = s) = false) ∧ (IntKind.wrap IntKind.i64 ((↑i : Int) + 1) = (↑i : Int) + 1) ∧ True) : Runs Tryz.prog 18 (loopOf Tryz.f38 0) (⟨[(0, .seq (l.map .str) c), (1, .str s), (4, .bool false), (5, .int .i64 i)], []⟩) (Out.normal) (St.mk [(0, AV.seq (List.map AV.str l) c), (1, AV.str s), (4, AV.bool false), (5, AV.int IntKind.i64 ((↑i : Int) + 1))] []) :=
  pathA_sound Tryz_mix (base := 0) (sc := [.is true, .elt (.str x), .is false]) (slots := [0, 1, 4, 5]) (tb := []) (cs := [decide ((↑i : Int) < (↑(List.length (List.map AV.str l)) : Int)) = true, 0 ≤ (↑i : Int) ∧ (List.map AV.str l)[Int.toNat (↑i : Int)]? = some (AV.str x), decide (x = s) = false, IntKind.wrap IntKind.i64 ((↑i : Int) + 1) = (↑i : Int) + 1]) (by kernel_rfl) h

theorem has_found (l : List ByteArray) (c : Bool) (s x : ByteArray) (i : Nat) (h : (decide ((↑i : Int) < (↑(List.length (List.map AV.str l)) : Int)) = true) ∧ (0 ≤ (↑i : Int) ∧ (List.map AV.str l)[Int.toNat (↑i : Int)]? = some (AV.str x)) ∧ (decide (x = s) = true) ∧ True) : Runs Tryz.prog 18 (loopOf Tryz.f38 0) (⟨[(0, .seq (l.map .str) c), (1, .str s), (4, .bool false), (5, .int .i64 i)], []⟩) (Out.ret) (St.mk [(4, AV.bool true)] []) :=
  pathA_sound Tryz_mix (base := 0) (sc := [.is true, .elt (.str x), .is true]) (slots := [4]) (tb := []) (cs := [decide ((↑i : Int) < (↑(List.length (List.map AV.str l)) : Int)) = true, 0 ≤ (↑i : Int) ∧ (List.map AV.str l)[Int.toNat (↑i : Int)]? = some (AV.str x), decide (x = s) = true]) (by kernel_rfl) h

theorem has_end (l : List ByteArray) (c : Bool) (s : ByteArray) (i : Nat) (h : (decide ((↑i : Int) < (↑(List.length (List.map AV.str l)) : Int)) = false) ∧ True) : Runs Tryz.prog 18 (loopOf Tryz.f38 0) (⟨[(0, .seq (l.map .str) c), (1, .str s), (4, .bool false), (5, .int .i64 i)], []⟩) (Out.exit 0) (St.mk [] []) :=
  pathA_sound Tryz_mix (base := 0) (sc := [.is false]) (slots := []) (tb := []) (cs := [decide ((↑i : Int) < (↑(List.length (List.map AV.str l)) : Int)) = false]) (by kernel_rfl) h

theorem has_yes (l : List ByteArray) (c : Bool) (s : ByteArray) (h : (Go.Ped.Loops Tryz.prog 18 (loopOf Tryz.f38 0) (St.mk [(0, AV.seq (List.map AV.str l) c), (1, AV.str s), (4, AV.bool false), (5, AV.int IntKind.i64 0)] []) (Out.ret) (St.mk [(4, AV.bool true)] [])) ∧ True) : Runs Tryz.prog 18 (bodyOf Tryz.f38) (⟨[(0, .seq (l.map .str) c), (1, .str s)], []⟩) (Out.ret) (St.mk [(4, AV.bool true)] []) :=
  pathA_sound Tryz_mix (base := 0) (sc := [.sum .ret [(4, .bool true)] []]) (slots := [4]) (tb := []) (cs := [Go.Ped.Loops Tryz.prog 18 (loopOf Tryz.f38 0) (St.mk [(0, AV.seq (List.map AV.str l) c), (1, AV.str s), (4, AV.bool false), (5, AV.int IntKind.i64 0)] []) (Out.ret) (St.mk [(4, AV.bool true)] [])]) (by kernel_rfl) h

theorem has_no (l : List ByteArray) (c : Bool) (s : ByteArray) (h : (Go.Ped.Loops Tryz.prog 18 (loopOf Tryz.f38 0) (St.mk [(0, AV.seq (List.map AV.str l) c), (1, AV.str s), (4, AV.bool false), (5, AV.int IntKind.i64 0)] []) (Out.exit 0) (St.mk [] [])) ∧ True) : Runs Tryz.prog 18 (bodyOf Tryz.f38) (⟨[(0, .seq (l.map .str) c), (1, .str s)], []⟩) (Out.ret) (St.mk [(4, AV.bool false)] []) :=
  pathA_sound Tryz_mix (base := 0) (sc := [.sum (.exit 0) [] []]) (slots := [4]) (tb := []) (cs := [Go.Ped.Loops Tryz.prog 18 (loopOf Tryz.f38 0) (St.mk [(0, AV.seq (List.map AV.str l) c), (1, AV.str s), (4, AV.bool false), (5, AV.int IntKind.i64 0)] []) (Out.exit 0) (St.mk [] [])]) (by kernel_rfl) h

theorem has_spec (l : List ByteArray) (c : Bool) (s : ByteArray) (hl : l.length < 1000000000000000) : Spec Tryz.prog 38 [.seq (l.map .str) c, .str s] [] (.bool (hasT l s)) [] := by
  let st : Nat → St := fun i => ⟨[(0, .seq (l.map .str) c), (1, .str s), (4, .bool false), (5, .int .i64 i)], []⟩
  have step : ∀ i x, l[i]? = some x → x ≠ s → Runs Tryz.prog 18 (loopOf Tryz.f38 0) (st i) .normal (st (i + 1)) := by
    intro i x hx hne
    have hi : i < l.length := (List.getElem?_eq_some_iff.1 hx).1
    exact has_next l c s x i ⟨by simp; omega, ⟨by omega, by simpa using hx⟩, by simpa using hne, wrap64_id (by omega) (by omega), trivial⟩
  have main : ∀ (k : Nat), (∀ i, i < k → ∃ x, l[i]? = some x ∧ x ≠ s) → ∀ (e : Out) (st' : St), Loops Tryz.prog 18 (loopOf Tryz.f38 0) (st k) e st' → Loops Tryz.prog 18 (loopOf Tryz.f38 0) (st 0) e st' :=
    fun k hk e st' hend => Loops.from (fun i hi => let ⟨x, h1, h2⟩ := hk i hi; step i x h1 h2) hend
  by_cases hin : s ∈ l
  · rw [hasT_iff.2 hin]
    refine Spec.pure (fn := Tryz.f38) (c := bodyOf Tryz.f38) (by kernel_rfl) (by kernel_rfl) (by kernel_rfl) (has_yes l c s ⟨?_, trivial⟩) (.inr rfl) (by kernel_rfl) (by kernel_rfl)
    have : ∃ k : Nat, l[k]? = some s ∧ ∀ i, i < k → ∃ x, l[i]? = some x ∧ x ≠ s := by
      clear main step st hl
      induction l with
      | nil => simp at hin
      | cons y r ih =>
        by_cases e : y = s
        · exact ⟨0, by simp [e], fun i hi => by omega⟩
        · have hin' : s ∈ r := by simpa [Ne.symm e] using hin
          obtain ⟨k, h1, h2⟩ := ih hin'
          refine ⟨k + 1, by simpa using h1, fun i hi => ?_⟩
          cases i with
          | zero => exact ⟨y, rfl, e⟩
          | succ i => simpa using h2 i (by omega)
    obtain ⟨k, h1, h2⟩ := this
    have hk : k < l.length := (List.getElem?_eq_some_iff.1 h1).1
    exact main k h2 _ _ (.leave (has_found l c s s k ⟨by simp; omega, ⟨by omega, by simpa using h1⟩, by simp, trivial⟩) (by simp))
  · rw [hasT_false hin]
    refine Spec.pure (fn := Tryz.f38) (c := bodyOf Tryz.f38) (by kernel_rfl) (by kernel_rfl) (by kernel_rfl) (has_no l c s ⟨?_, trivial⟩) (.inr rfl) (by kernel_rfl) (by kernel_rfl)
    refine main l.length (fun i hi => ⟨l[i], List.getElem?_eq_getElem hi, fun e => hin (e ▸ List.getElem_mem hi)⟩) _ _ (.leave (has_end l c s l.length ⟨by simp, trivial⟩) (by simp))

end Go.Ped
