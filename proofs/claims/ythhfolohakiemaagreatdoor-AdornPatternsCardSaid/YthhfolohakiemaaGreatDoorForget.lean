/-
  Pieces that a result does not name are forgotten; loops whose state is cut down first.
-/
import Derived.Test.YthhfolohakiemaaGreatDoorThaw
set_option linter.unusedVariables false
namespace Go.Ped
open Go.RowKit

section
variable {P : Program} {F : Fr} {S : Blk} {β : Beta} {hp : List (Nat × Ob)} {w w' : World}

/-- New pieces of a function's that its result does not name are forgotten. -/
theorem Spec.forget {f : FuncId} {args : List AV} {r : AV} {upd : List (Nat × Ob)} (h : Spec P f args [] r upd) (ha : noIdsL args = true) (hn : noIds r = true) : Spec P f args [] r [] := by
  intro F S β hp w vs M hl hv _ _
  let F1 : Fr := { w0 := w, S0 := S, M := fun _ => False, β0 := noB }
  have M1 : Mem F1 S noB [] w := ⟨⟨M.tabw.1, fun h => h⟩, rfl, rfl, rfl, Nat.le_refl _, fun _ _ _ => rfl, fun id o h => (by cases h), fun id bi h => (by cases h), fun i j bi bj h => (by cases h), fun i bi h => (by cases h), M.sub, fun _ h => h, fun _ h => .inl h, fun i b _ h => h⟩
  have hcall := h F1 S noB [] w vs M1 hl (fun i v x h1 h2 => (hv i v x h1 h2).noIds (noIdsL_iff.1 ha x (List.mem_of_getElem? h2))) (fun id o hm => by cases hm) (fun id o hm _ => rfl)
  refine hcall.mono ?_
  rintro e w' ⟨v, S', β', rfl, E', M', hV⟩
  have hag : Agr S w w' := fun b hb => M'.keep b (M.sub b hb) (fun h => h)
  have hend : ∃ S2 β2, Ext S S2 β β2 w w' ∧ Mem F S2 β2 hp w' ∧ V S2 β2 w' v r := by
    refine ⟨S', β, ⟨M'.base, fun _ _ h => h, hag⟩, ?_, (hV.noIds hn).up⟩
    have out : ∀ i bi, β i = some bi → w'.heap[bi.blk]? = w.heap[bi.blk]? := fun i bi hi => M'.keep _ (M.own i bi hi).2.1 (fun h => h)
    refine ⟨M.tab, M'.os.trans M.os, M'.tape.trans M.tape, M'.output.trans M.output, Nat.le_trans M.size M'.size, fun b h1 h2 => (M'.keep b (Nat.lt_of_lt_of_le h1 M.size) (fun h => h)).trans (M.keep b h1 h2), fun id o h => (M.obs id o h).mono M'.base (fun _ _ h => h) hag (out id), M.dom, M.inj, fun i bi hi => ?_, M'.sub, fun b h => M'.base b (M.base b h), fun b h => ?_, M.giv⟩
    · obtain ⟨p1, p2, p3⟩ := M.own i bi hi
      refine ⟨fun hs => ?_, Nat.lt_of_lt_of_le p2 M'.size, p3⟩
      rcases M'.new _ hs with h | h
      · exact p1 h
      · exact absurd p2 (Nat.not_lt.2 h)
    · rcases M'.new b h with h | h
      · exact M.new b h
      · exact .inr (Nat.le_trans M.size h)
  obtain ⟨S2, β2, x, m, hv2⟩ := hend
  exact ⟨v, S2, β2, rfl, x, m, hv2⟩

end

/-- A loop from less than what is told. -/
theorem Loops.keep {P : Program} {n : Nat} {c : Code} {st st1 st' : St} {e : Out} {cs : List Prop} (slots : List Nat) (tb : List (Nat × Rk)) (h : Loops P n c st1 e st') (hr : renSt slots tb st = some (st1, cs)) (hc : allP cs) : Loops P n c st e st' :=
  h.pre (renSt_le hr (allP_mem hc))

end Go.Ped
