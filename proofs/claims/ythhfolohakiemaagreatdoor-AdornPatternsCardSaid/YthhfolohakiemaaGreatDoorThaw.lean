/-
  What a function does to what it only reads, it does to the pieces of its caller's that hold the same: rows handed over for reading.
-/
import Derived.Test.YthhfolohakiemaaGreatDoorLib
import Derived.Below
set_option linter.unusedVariables false
namespace Go.Ped
open Go.RowKit

/-- A value in one cell, that names no memory. -/
def scal : AV → Bool
  | .int _ _ => true
  | .bool _ => true
  | .str _ => true
  | _ => false

theorem V.scal {S S' : Blk} {β β' : Beta} {w w' : World} {v : Value} {x : AV} (h : V S β w v x) (hs : Ped.scal x = true) : V S' β' w' v x := by
  cases h with
  | int k n => exact .int k n
  | bool b => exact .bool b
  | str s => exact .str s
  | _ => cases hs

/-- Rows that are read as far as they are told: (number, cells of an element, elements, so many of them). -/
structure Rw where
  id : Nat
  sz : Nat
  es : List AV
  n : Nat

def Rw.ob (r : Rw) : Nat × Ob := (r.id, .row r.sz r.es)
def Rw.rn (r : Rw) : Nat × Rn := (r.id, .row (r.es.take r.n))

section
variable {P : Program} {F : Fr} {S : Blk} {β : Beta} {hp : List (Nat × Ob)} {w w' : World}

theorem HR.take {bi : Bl} {es : List AV} (h : HR S β w bi es) (n : Nat) : HR S β w bi (es.take n) := by
  obtain ⟨cur, t, h1, h2, h3, h4, h5, h6⟩ := h
  have tk : ∀ {i : Nat} {e : AV}, (es.take n)[i]? = some e → es[i]? = some e := by
    intro i e he
    rw [List.getElem?_take] at he
    split at he
    · exact he
    · cases he
  exact ⟨cur, t, h1, h2, by rw [List.length_take]; omega, h4, fun i e he => h5 i e (tk he), fun i j e c he hc => h6 i j e c (tk he) hc⟩

theorem look_rn : ∀ {l : List Rw} {id : Nat} {x : Rn}, look (l.map Rw.rn) id = some x → ∃ r, r ∈ l ∧ r.id = id ∧ x = .row (r.es.take r.n)
  | [], _, _, h => by cases h
  | r :: l, id, x, h => by
    simp only [List.map_cons, Rw.rn, look] at h
    by_cases e : r.id = id
    · rw [if_pos e] at h; injection h with h; exact ⟨r, by simp, e, h.symm⟩
    · rw [if_neg e] at h
      obtain ⟨r', h1, h2, h3⟩ := look_rn (l := l) h
      exact ⟨r', by simp [h1], h2, h3⟩

theorem Mem.later (M : Mem F S β hp w) (h : Go.RowKit.Below w.heap.size w w') : Mem F S β hp w' := by
  have hagr : Agr S w w' := fun b hb => h.block b (M.sub b hb)
  refine ⟨M.tab, h.os.trans M.os, h.tape.trans M.tape, h.output.trans M.output, Nat.le_trans M.size h.size, fun b h1 h2 => (h.block b (Nat.lt_of_lt_of_le h1 M.size)).trans (M.keep b h1 h2), fun id o ho => (M.obs id o ho).mono (fun _ h => h) (fun _ _ h => h) hagr (fun bi hi => h.block _ (M.own id bi hi).2.1), M.dom, M.inj, fun i bi hi => ?_, fun b hb => Nat.lt_of_lt_of_le (M.sub b hb) h.size, M.base, M.new, M.giv⟩
  obtain ⟨a, b, c⟩ := M.own i bi hi
  exact ⟨a, Nat.lt_of_lt_of_le b h.size, c⟩

/-- ROWS HANDED OVER FOR READING. -/
theorem Spec.thaw {f : FuncId} {args args' : List AV} {r : AV} (l : List Rw) (h : Spec P f args' [] r []) (hr : Ped.scal r = true) (hn : ∀ x, x ∈ l → noIdsL x.es = true) (ha : renL (l.map Rw.rn) args = args') (hc : ∀ p, p ∈ renCL (l.map Rw.rn) args → p) :
    Spec P f args (l.map Rw.ob) r [] := by
  intro F S β hp w vs M hl hv hpre hupd
  let S1 : Blk := fun b => S b ∨ ∃ x bi, x ∈ l ∧ β x.id = some bi ∧ b = bi.blk
  let F1 : Fr := { w0 := w, S0 := S1, M := fun _ => False, β0 := noB }
  have hlt : ∀ b, S1 b → b < w.heap.size := by
    rintro b (hb | ⟨x, bi, _, hi, rfl⟩)
    · exact M.sub b hb
    · exact (M.own _ bi hi).2.1
  have M1 : Mem F1 S1 noB [] w   := ⟨⟨M.tabw.1, fun h => h⟩, rfl, rfl, rfl, Nat.le_refl _, fun _ _ _ => rfl, fun id o h => (by cases h), fun id bi h => (by cases h), fun i j bi bj h => (by cases h), fun i bi h => (by cases h), hlt, fun _ h => h, fun _ h => .inl h, fun i b _ h => h⟩
  have T : Tab S S1 β noB w (l.map Rw.rn) := by
    refine ⟨fun b hb => .inl hb, fun id j bi hj => ?_, fun id es bi hj hb => ?_, fun id cs bi hj => ?_, fun id ks vs bi hj => ?_⟩
    · obtain ⟨r, _, _, e⟩ := look_rn hj; cases e
    · obtain ⟨r, h1, h2, e⟩ := look_rn hj
      injection e with e
      subst e
      refine ⟨.inr ⟨r, bi, h1, by rw [h2]; exact hb, rfl⟩, ?_⟩
      obtain ⟨bj, q1, q2, q3⟩ := M.obs r.id _ (hpre r.id (.row r.sz r.es) (List.mem_map.2 ⟨r, h1, rfl⟩))
      rw [h2, hb] at q1; injection q1 with q1; subst q1
      exact (q3.bare (fun b hb => .inl hb) (hn r h1)).take r.n
    · obtain ⟨r, _, _, e⟩ := look_rn hj; cases e
    · obtain ⟨r, _, _, e⟩ := look_rn hj; cases e
  have hcall := h F1 S1 noB [] w vs M1 (by rw [hl, ← ha, renL_map, List.length_map]) (fun i v x hvi hx => by
      rw [← ha] at hx
      obtain ⟨x0, h1, rfl⟩ := renL_get hx
      exact (hv i v x0 hvi h1).ren T (renCL_mem hc x0 (List.mem_of_getElem? h1))) (fun id o hm => by cases hm) (fun id o hm => by cases hm)
  refine hcall.mono ?_
  rintro e w' ⟨v, S', β', rfl, E, M', hV⟩
  have hb : Go.RowKit.Below w.heap.size w w' := ⟨M'.os, M'.tape, M'.output, M'.size, fun k hk => M'.keep k hk (fun h => h)⟩
  exact ⟨v, S, β, rfl, ⟨fun _ h => h, fun _ _ h => h, fun b hb' => hb.block b (M.sub b hb')⟩, M.later hb, hV.scal hr⟩

end

/-- A term: its variable's name; its value's kind, number, text. -/
structure Tm where
  v : ByteArray
  k : Int
  n : Int
  s : ByteArray

def Tm.av (t : Tm) : AV := .agg [.str t.v, .int .i8 t.k, .int .i64 t.n, .str t.s]

/-- A byte. -/
def bav (b : UInt8) : AV := .int .u8 b.toNat

end Go.Ped
