/-
  The engine, part 7: conversions, function values, fields of values, slices, lengths, calls, new variables.
-/
import Derived.Test.YthhfolohakiemaaGreatDoorSound3
set_option linter.unusedVariables false
namespace Go.Ped
open Go.RowKit

section
variable {P : Program} {F : Fr} {S : Blk} {β : Beta} {hp : List (Nat × Ob)} {w : World} {a : Act} {o : Oper} {res : Res} {rd : List Nat} {sc : List Dir}

theorem fold_bytes : ∀ (l : List UInt8) (s : ByteArray), (l.map fun b => (b.toNat : Int)).foldl (fun r n => r.push (UInt8.ofNat n.toNat)) s = ⟨s.data ++ l.toArray⟩
  | [], s => by simp
  | b :: l, s => by
    simp only [List.map_cons, List.foldl_cons]
    rw [fold_bytes l]
    congr 1
    simp [ByteArray.push]

theorem u8_of {e : TypeId} (h : u8A P e = true) : P.underlying e = some (.int .u8) := by
  unfold u8A at h
  split at h
  · assumption
  · cases h

theorem ok_bytes {src dst e : TypeId} {x : Operand} {id off len : Nat} (ho : o.op = .convert src dst x) (M : Mem F S β hp w) (hs : P.underlying src = some (.slice e)) (hd : P.underlying dst = some .string) (he : P.underlying e = some (.int .u8))
    (hx : V S β w (a.eval x) (.row id off len)) (hr : (bytesA id off len sc).run (look hp) = some (res, rd)) (hc : ∀ c, c ∈ res.cs → c.p) : OpOK P F S β hp w a o res := by
  cases sc with
  | nil => cases hr
  | cons dd sc' =>
    cases dd with
    | text s =>
      simp only [bytesA, Rd.run] at hr
      cases hl : look hp id with
      | none => rw [hl] at hr; cases hr
      | some ob =>
        rw [hl] at hr
        have hob := M.obs id ob hl
        cases ob with
        | row sz es =>
          simp only at hr
          by_cases hsz : sz = 1
          · rw [if_pos hsz] at hr
            simp only [valIf, Rd.run] at hr
            injection hr with hr; injection hr with hr _; subst hr
            obtain ⟨rfl, hlen, htake⟩ := hc _ (List.mem_singleton.2 rfl)
            generalize hv : a.eval x = v at hx
            cases hx with
            | row _ _ _ ad bi hb hle ha =>
              obtain ⟨bj, e1, e2, cur, ty, h1, h2, h3, h4, h5, h6⟩ := hob
              rw [hb] at e1; injection e1 with e1; subst e1
              rw [hsz] at e2
              rw [e2] at h2 h5 h6
              have hcells : ∀ (j : Nat) v, (s.data.toList.map fun b => Value.int .u8 (b.toNat : Int))[j]? = some v → w.cell? ⟨bi.blk, 0 + j, none⟩ = some v := by
                intro j v hj
                have hjl : j < len := by have := (List.getElem?_eq_some_iff.1 hj).1; rw [hlen]; simpa using this
                have hje : es[j]? = (s.data.toList.map fun b => AV.int .u8 (b.toNat : Int))[j]? := by rw [← htake, List.getElem?_take, if_pos hjl]
                rw [List.getElem?_map] at hje hj
                cases hb2 : s.data.toList[j]? with
                | none => rw [hb2] at hj; cases hj
                | some b2 =>
                  rw [hb2] at hje hj
                  injection hj with hj
                  subst hj
                  obtain ⟨u, hu, hV⟩ := h6 j 0 (.int .u8 b2.toNat) (.int .u8 b2.toNat) hje rfl
                  cases hV
                  rw [cell_row h1, Nat.zero_add]
                  simpa using hu
              have hload := run_loadCellsA (P := P) (w := w) bi.blk 0 _ hcells
              rw [List.length_map] at hload
              have hsl : s.data.toList.length = len := by rw [hlen]; simp
              rw [hsl] at hload
              have had : 0 < len → ad = ⟨bi.blk, 0, none⟩ := fun h => by have := ha (by omega); simpa using this
              have hconv : (Conv.bytesToString (.slice (some ad) len (bi.cap - 0))).run P w = .ok (.string s) w := by
                by_cases h0 : 0 < len
                · rw [had h0]
                  have := run_bytesToString (P := P) w ⟨bi.blk, 0, none⟩ len (bi.cap - 0) (s.data.toList.map fun b => (b.toNat : Int)) (by rw [hload]; simp)
                  rw [this, fold_bytes]
                  congr 2
                  simp
                · have h0' : len = 0 := by omega
                  subst h0'
                  have hnil : s.data.toList = [] := List.eq_nil_of_length_eq_zero hsl
                  have hsn : s = ByteArray.empty := by
                    obtain ⟨⟨l⟩⟩ := s
                    simp only at hnil
                    subst hnil
                    rfl
                  have hz : ∀ (b : Addr), (loadCells b 0).run P w = .ok #[] w := fun b => by simp [loadCells, loadCellsFrom]
                  have := run_bytesToString (P := P) w ad 0 (bi.cap - 0) [] (by rw [hz]; rfl)
                  rw [this, hsn]
                  rfl
              rw [Nat.sub_zero] at hconv hv
              refine ok_same M (v := .string s) ?_ rfl (.str _)
              simp [execOp, ho, hv, convert, run_underlying hs, run_underlying hd, run_underlying he, hconv]
          · rw [if_neg hsz] at hr; cases hr
        | _ => cases hr
    | _ => cases hr

/-- The bytes of a text: laid anew, only read. -/
theorem ok_toBytes {src dst e : TypeId} {x : Operand} {s : ByteArray} (ho : o.op = .convert src dst x) (M : Mem F S β hp w) (hs : P.underlying src = some .string) (hd : P.underlying dst = some (.slice e)) (he : P.underlying e = some (.int .u8))
    (hx : V S β w (a.eval x) (.str s)) (hr : (valIf (.seq (s.data.toList.map fun b => .int .u8 b.toNat) false) (s.size ≤ maxLen) sc).run (look hp) = some (res, rd)) (hc : ∀ c, c ∈ res.cs → c.p) : OpOK P F S β hp w a o res := by
  generalize hv : a.eval x = v at hx
  cases hx
  obtain ⟨e1, e2, _, e4⟩ := valIf_run hr
  have hmax := hc _ (by rw [e4]; exact List.mem_singleton.2 rfl)
  simp only [] at hmax
  have hge := grownCap_ge w s.size 0 e
  have hcm : grownCap w s.size 0 e ≤ maxLen := grownCap_le_maxLen w _ 0 e hmax
  have M0 : Mem F S β hp w.drew := ⟨M.tab, M.os, M.tape, M.output, M.size, M.keep, fun id x hx => HO.mono (w := w) (w' := w.drew) (fun _ h => h) (fun _ _ h => h) (fun _ _ => rfl) (fun _ _ => rfl) (M.obs id x hx), M.dom, M.inj, M.own, M.sub, M.base, M.new, M.giv⟩
  have E0 : Ext S S β β w w.drew := ⟨fun _ h => h, fun _ _ h => h, fun _ _ => rfl⟩
  obtain ⟨E1, M1⟩ := M0.lay (.cells (bytesRow s (grownCap w s.size 0 e)) e ((bytesRow s (grownCap w s.size 0 e)).size, (bytesRow s (grownCap w s.size 0 e)).size + 1))
  refine ok_value (v := .slice (some ⟨w.heap.size, 0, none⟩) s.size (grownCap w s.size 0 e)) ?_ (E0.trans E1) (by rw [e2]; exact M1) ?_
  · simp [execOp, ho, hv, run_bytes_of_string w src dst e s hs hd he]
  · rw [e1]
    have hlen : s.size = (s.data.toList.map fun b => AV.int .u8 b.toNat).length := by simp
    have hcell : ∀ (i : Nat) (b : UInt8), s.data.toList[i]? = some b → (w.drew.alloc (.cells (bytesRow s (grownCap w s.size 0 e)) e ((bytesRow s (grownCap w s.size 0 e)).size, (bytesRow s (grownCap w s.size 0 e)).size + 1))).cell? ⟨w.heap.size, i, none⟩ = some (.int .u8 b.toNat) := by
      intro i b hb
      have hb' : s.data[i]? = some b := by simpa using hb
      have hh : (w.drew.alloc (.cells (bytesRow s (grownCap w s.size 0 e)) e ((bytesRow s (grownCap w s.size 0 e)).size, (bytesRow s (grownCap w s.size 0 e)).size + 1))).heap[w.heap.size]? = some (.cells (bytesRow s (grownCap w s.size 0 e)) e ((bytesRow s (grownCap w s.size 0 e)).size, (bytesRow s (grownCap w s.size 0 e)).size + 1)) := by
        show (w.heap.push _)[w.heap.size]? = _
        simp
      rw [cell_row hh]
      unfold bytesRow
      have hi : i < s.data.size := (Array.getElem?_eq_some_iff.1 hb').1
      rw [Array.getElem?_append_left (by simpa using hi)]
      simp [hb']
    have := V.seq (S := fun b => S b ∨ b = w.heap.size) (β := β) (w := (w.drew.alloc (.cells (bytesRow s (grownCap w s.size 0 e)) e ((bytesRow s (grownCap w s.size 0 e)).size, (bytesRow s (grownCap w s.size 0 e)).size + 1)))) (some ⟨w.heap.size, 0, none⟩) (grownCap w s.size 0 e) 1 w.heap.size 0 (s.data.toList.map fun b => AV.int .u8 b.toNat) false
      (fun i _ => ((s.data.toList.map fun b => Value.int .u8 b.toNat)[i]?).getD undef) (by rw [← hlen]; exact hge) hcm (fun h => by cases h) (fun _ => ⟨rfl, .inr rfl⟩) (fun i e he => ?_) (fun i j e c h1 h2 => ?_) (fun i j e c h1 h2 => ?_)
    · rw [← hlen] at this; exact this
    · rw [List.getElem?_map] at he
      obtain ⟨b, hb, rfl⟩ := Option.map_eq_some_iff.1 he
      rfl
    · rw [List.getElem?_map] at h1
      obtain ⟨b, hb, rfl⟩ := Option.map_eq_some_iff.1 h1
      cases j with
      | succ j => simp [AV.cells] at h2
      | zero =>
        have := hcell i b hb
        simp only [Nat.zero_add, Nat.mul_one, Nat.add_zero, List.getElem?_map, hb, Option.map_some, Option.getD_some]
        exact this
    · rw [List.getElem?_map] at h1
      obtain ⟨b, hb, rfl⟩ := Option.map_eq_some_iff.1 h1
      cases j with
      | succ j => simp [AV.cells] at h2
      | zero =>
        simp [AV.cells] at h2
        subst h2
        simp only [List.getElem?_map, hb, Option.map_some, Option.getD_some]
        exact .int _ _

theorem ok_convert {src dst : TypeId} {x : Operand} {X : AV} (ho : o.op = .convert src dst x) (M : Mem F S β hp w) (hx : V S β w (a.eval x) X) (hr : (convertA P src dst X sc).run (look hp) = some (res, rd)) (hc : ∀ c, c ∈ res.cs → c.p) :
    OpOK P F S β hp w a o res := by
  unfold convertA at hr
  split at hr
  · rename_i k0 k k1 n hs hd
    generalize hv : a.eval x = v at hx
    cases hx
    obtain ⟨e1, e2, _, e4⟩ := valIf_run hr
    have hw := hc _ (by rw [e4]; exact List.mem_singleton.2 rfl)
    simp only [] at hw
    refine ok_same M (v := .int k n) ?_ e2 (by rw [e1]; exact .int _ _)
    simp [execOp, ho, hv, convert, run_underlying hs, run_underlying hd, Conv.intToInt, hw]
  · rename_i s hs hd
    generalize hv : a.eval x = v at hx
    cases hx
    obtain ⟨e1, e2, _, _⟩ := val_run hr
    refine ok_same M (v := .string s) ?_ e2 (by rw [e1]; exact .str _)
    simp [execOp, ho, hv, convert, run_underlying hs, run_underlying hd]
  · rename_i e id off len hs hd
    by_cases he : u8A P e = true
    · rw [if_pos he] at hr
      exact ok_bytes ho M hs hd (u8_of he) hx hr hc
    · rw [if_neg he] at hr; cases hr
  · rename_i e s hs hd
    by_cases he : u8A P e = true
    · rw [if_pos he] at hr
      exact ok_toBytes ho M hs hd (u8_of he) hx hr hc
    · rw [if_neg he] at hr; cases hr
  · cases hr

end
end Go.Ped
