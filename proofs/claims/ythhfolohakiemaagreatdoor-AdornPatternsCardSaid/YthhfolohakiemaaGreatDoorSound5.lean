/-
  The engine, part 8: function values, fields of values, slices, lengths, calls, new variables, stores.
-/
import Derived.Test.YthhfolohakiemaaGreatDoorSound4
set_option linter.unusedVariables false
namespace Go.Ped
open Go.RowKit

section
variable {P : Program} {F : Fr} {S : Blk} {β : Beta} {hp : List (Nat × Ob)} {w : World} {a : Act} {o : Oper} {res : Res} {rd : List Nat} {sc : List Dir}

theorem ok_field {s : TypeId} {x : Operand} {f : Nat} {X : AV} (ho : o.op = .field s x f) (M : Mem F S β hp w) (hx : V S β w (a.eval x) X) (hr : (fieldA P s f X sc).run (look hp) = some (res, rd)) :
    OpOK P F S β hp w a o res := by
  unfold fieldA at hr
  split at hr
  · rename_i fields cs hu
    cases hf : fields[f]? with
    | none => rw [hf] at hr; cases hr
    | some g =>
      rw [hf] at hr
      simp only at hr
      cases hq : readA P g.type (cs.drop g.offset) with
      | none => rw [hq] at hr; cases hr
      | some y =>
        rw [hq] at hr
        obtain ⟨e1, e2, _, _⟩ := val_run hr
        generalize hv : a.eval x = v at hx
        cases hx with
        | agg vs _ hl h =>
          have hpart : ∃ u, (part g.type vs.toArray g.offset).run P w = .ok u w ∧ V S β w u y := by
            unfold readA at hq
            cases ha : aggA P g.type with
            | none => rw [ha] at hq; simp at hq
            | some b =>
              cases hs : sizeA P g.type with
              | none => rw [ha, hs] at hq; cases b <;> simp at hq
              | some n =>
                rw [ha, hs] at hq
                cases b with
                | true =>
                  simp only at hq
                  split at hq
                  · rename_i hle
                    injection hq with hq
                    subst hq
                    rw [List.length_drop] at hle
                    refine ⟨.agg ((vs.drop g.offset).take n).toArray, ?_, ?_⟩
                    · simp [part, run_isAggA ha, run_sizeOfA hs, List.extract_eq_take_drop, Nat.add_sub_cancel_left]
                    · have E : Each S β w vs cs := ⟨hl, h⟩
                      have E2 := (E.drop g.offset).take n
                      exact .agg _ _ E2.1 E2.2
                  · cases hq
                | false =>
                  simp only at hq
                  have h0 : cs[g.offset]? = some y := by
                    have : (cs.drop g.offset)[0]? = some y := by rw [← List.head?_eq_getElem?]; exact hq
                    rw [List.getElem?_drop] at this
                    simpa using this
                  have hlt : g.offset < cs.length := (List.getElem?_eq_some_iff.1 h0).1
                  have hvv : vs[g.offset]? = some (vs[g.offset]'(by omega)) := List.getElem?_eq_getElem (by omega)
                  refine ⟨vs[g.offset]'(by omega), ?_, h _ _ _ hvv h0⟩
                  simp [part, run_isAggA ha, hvv]
          obtain ⟨u, h1, h2⟩ := hpart
          refine ok_same M (v := u) ?_ e2 (by rw [e1]; exact h2)
          simp [execOp, ho, hv, Instr.field, run_underlying hu, hf, asAgg, h1]
  · cases hr

theorem Each.split {vs : List Value} {xs ys : List AV} (h : Each S β w vs (xs ++ ys)) : Each S β w (vs.take xs.length) xs ∧ Each S β w (vs.drop xs.length) ys := by
  have h1 := h.take xs.length
  have h2 := h.drop xs.length
  rw [List.take_left] at h1
  rw [List.drop_left] at h2
  exact ⟨h1, h2⟩

theorem ok_makeFunc {f : FuncId} {first cap : Array Operand} {xs : List AV} (ho : o.op = .makeFunc (.func f) first cap) (M : Mem F S β hp w)
    (hx : Each S β w ((first ++ cap).toList.map a.eval) xs) (hr : (val (.clo f (xs.take first.size) (xs.drop first.size)) sc).run (look hp) = some (res, rd)) :
    OpOK P F S β hp w a o res := by
  obtain ⟨e1, e2, _, _⟩ := val_run hr
  refine ok_same M (v := .func (.func f) (first.map a.eval) (cap.map a.eval)) ?_ e2 ?_
  · simp [execOp, ho, Instr.makeFunc]
  · rw [e1]
    have h1 := hx.take first.size
    have h2 := hx.drop first.size
    have q1 : ((first ++ cap).toList.map a.eval).take first.size = (first.map a.eval).toList := by
      simp only [Array.toList_append, List.map_append, Array.toList_map]
      exact List.take_left' (by simp)
    have q2 : ((first ++ cap).toList.map a.eval).drop first.size = (cap.map a.eval).toList := by
      simp only [Array.toList_append, List.map_append, Array.toList_map]
      exact List.drop_left' (by simp)
    rw [q1] at h1
    rw [q2] at h2
    have := V.clo (S := S) (β := β) (w := w) f _ _ _ _ h1.1 h2.1 h1.2 h2.2
    rw [Array.toArray_toList, Array.toArray_toList] at this
    exact this

theorem ok_len {t ty : TypeId} {x : Operand} {X : AV} (ho : o.op = .call ⟨.builtin .len, #[x], #[t]⟩) (M : Mem F S β hp w) (hx : V S β w (a.eval x) X) (hr : (lenA P t X sc).run (look hp) = some (res, rd)) :
    OpOK P F S β hp w a o res := by
  unfold lenA at hr
  generalize hv : a.eval x = v at hx
  split at hr
  · rename_i e es clip hu
    obtain ⟨e1, e2, _, _⟩ := val_run hr
    cases hx with
    | seq p cap sz b o2 _ _ U hcap hmax hclip hp' hsz hcc hvv =>
      refine ok_same M (v := .int .i64 es.length) ?_ e2 (by rw [e1]; exact .int _ _)
      simp [execOp, ho, resolve, invoke, builtin, hv, Builtin.len_, run_underlying hu, goInt]
  · rename_i e id off n hu
    obtain ⟨e1, e2, _, _⟩ := val_run hr
    cases hx with
    | row _ _ _ ad bi hb hle ha =>
      refine ok_same M (v := .int .i64 n) ?_ e2 (by rw [e1]; exact .int _ _)
      simp [execOp, ho, resolve, invoke, builtin, hv, Builtin.len_, run_underlying hu, goInt]
  · rename_i s hu
    obtain ⟨e1, e2, _, _⟩ := val_run hr
    cases hx
    refine ok_same M (v := .int .i64 s.size) ?_ e2 (by rw [e1]; exact .int _ _)
    simp [execOp, ho, resolve, invoke, builtin, hv, Builtin.len_, run_underlying hu, goInt]
  · cases hr

/-- What a run of calls for pieces comes to. -/
theorem zips_run : ∀ (ids : List Nat) (k : List (Nat × Ob) → Rd Res) {res : Res} {rd : List Nat}, (zips ids k).run (look hp) = some (res, rd) → ∃ pre rd', pre.map (·.1) = ids ∧ (∀ id o, (id, o) ∈ pre → look hp id = some o) ∧ (k pre).run (look hp) = some (res, rd')
  | [], k, res, rd, h => ⟨[], rd, rfl, by simp, h⟩
  | id :: ids, k, res, rd, h => by
    simp only [zips, Rd.run] at h
    cases hl : look hp id with
    | none => rw [hl] at h; cases h
    | some ob =>
      rw [hl] at h
      cases hq : (zips ids fun l => k ((id, ob) :: l)).run (look hp) with
      | none => simp only [hq] at h; cases h
      | some p =>
        obtain ⟨r1, l1⟩ := p
        simp only [hq] at h
        injection h with h; injection h with h1 h2
        subst h1
        obtain ⟨pre, rd', i1, i2, i3⟩ := zips_run ids _ hq
        refine ⟨(id, ob) :: pre, rd', by simp [i1], fun j o hj => ?_, i3⟩
        rcases List.mem_cons.1 hj with e | hj
        · injection e with e1 e2; subst e1; subst e2; exact hl
        · exact i2 j o hj

theorem ok_call {x : Operand} {args : Array Operand} {ts : Array TypeId} {f : AV} {xs : List AV} (ho : o.op = .call ⟨.value x, args, ts⟩) (M : Mem F S β hp w) (hf : V S β w (a.eval x) f) (hx : Each S β w (args.toList.map a.eval) xs)
    (hr : (callA P f xs sc).run (look hp) = some (res, rd)) (hc : ∀ c, c ∈ res.cs → c.p) (hn : ∀ id, id ∈ res.new → look hp id = none) : OpOK P F S β hp w a o res := by
  cases f with
  | clo g first cap =>
    cases sc with
    | nil => cases hr
    | cons dd sc' =>
      cases dd with
      | call r ids upd =>
        simp only [callA] at hr
        cases hfn : P.funcs[g]? with
        | none => rw [hfn] at hr; cases hr
        | some fn =>
          rw [hfn] at hr
          simp only at hr
          by_cases hb : fn.body.isSome ∧ fn.name ≠ "runtime.NumGoroutine"
          · rw [if_pos hb] at hr
            obtain ⟨pre, rd', i1, i2, i3⟩ := zips_run ids _ hr
            injection i3 with i3; injection i3 with i3 _; subst i3
            have hspec : Spec P g (first ++ xs ++ cap) pre r upd := hc _ (List.mem_singleton.2 rfl)
            generalize hv : a.eval x = v at hf
            cases hf with
            | clo _ fs gs _ _ h1 h2 h3 h4 =>
              intro K Q hK
              have hbody : fn.body.isNone = false := by cases h : fn.body <;> simp [h] at hb ⊢
              have hrun : (execOp a.eval o).run P w = .ok (.enter g (fs.toArray ++ (args.map a.eval) ++ gs.toArray)) w := by
                have hname : ¬ fn.name = "runtime.NumGoroutine" := hb.2
                have hbody2 : ¬ fn.body = none := by intro h; rw [h] at hbody; cases hbody
                simp [execOp, ho, resolve, Deferred.ofValue, hv, invoke, callFunc, run_program, hfn, hname, hbody2]
              rw [hrun]
              simp only [Oper.upon]
              have hargs : fs.toArray ++ (args.map a.eval) ++ gs.toArray = (fs ++ args.toList.map a.eval ++ gs).toArray := by
                apply Array.toList_inj.1; simp
              rw [hargs]
              have hlen : (fs ++ args.toList.map a.eval ++ gs).length = (first ++ xs ++ cap).length := by
                have := hx.1
                simp only [List.length_append]
                omega
              have hV : ∀ (i : Nat) v x, (fs ++ args.toList.map a.eval ++ gs)[i]? = some v → (first ++ xs ++ cap)[i]? = some x → V S β w v x := by
                intro i v y hi hj
                have hx1 := hx.1
                by_cases c1 : i < fs.length
                · rw [List.append_assoc, List.getElem?_append_left c1] at hi
                  rw [List.append_assoc, List.getElem?_append_left (by omega)] at hj
                  exact h3 i v y hi hj
                · by_cases c2 : i < fs.length + (args.toList.map a.eval).length
                  · rw [List.getElem?_append_left (by rw [List.length_append]; exact c2), List.getElem?_append_right (by omega)] at hi
                    rw [List.getElem?_append_left (by rw [List.length_append]; omega), List.getElem?_append_right (by omega), ← h1] at hj
                    exact hx.2 _ v y hi hj
                  · rw [List.getElem?_append_right (by rw [List.length_append]; omega), List.length_append] at hi
                    rw [List.getElem?_append_right (by rw [List.length_append]; omega), List.length_append, ← h1, ← hx1] at hj
                    exact h4 _ v y hi hj
              refine (hspec F S β hp w _ M hlen hV i2 (fun id ob h1 h2 => hn id ?_)).mono ?_
              · refine List.mem_filter.2 ⟨List.mem_map.2 ⟨(id, ob), h1, rfl⟩, ?_⟩
                rw [← i1]
                simp only [Bool.not_eq_true', List.contains_eq_mem, decide_eq_false_iff_not, List.mem_map, not_exists, not_and]
                rintro ⟨j, o'⟩ hj rfl
                exact h2 o' hj
              · rintro e w' ⟨v, S', β', rfl, E, M', hv'⟩
                exact hK v w' S' β' E M' hv'
          · rw [if_neg hb] at hr; cases hr
      | _ => cases hr
  | _ => cases hr

/-- A new variable. -/
theorem new_var {d : Nat} {X : AV} {v : Value} {t : TypeId} (M : Mem F S β hp w) (hd : look hp d = none) (hv : V S β w v X) (hX : isDead X = false) :
    ∃ S' β', Ext S S' β β' w (w.alloc (.cells v.cells t)) ∧ Mem F S' β' (putL hp d (.var X.cells)) (w.alloc (.cells v.cells t)) ∧ V S' β' (w.alloc (.cells v.cells t)) (.pointer (some ⟨w.heap.size, 0, none⟩)) (.elt d 0 0) := by
  have hne : X ≠ .dead := by rintro rfl; cases hX
  obtain ⟨h1, h2⟩ := hv.cells hne
  have hsz : X.cells.length = v.cells.size := h1.symm
  have hob : HO S (β.add d ⟨w.heap.size, X.cells.length, 1⟩) (w.alloc (.cells v.cells t)) d (.var X.cells) := by
    refine ⟨_, Beta.add_same _ _ _, rfl, v.cells, t, heap_alloc_new w _, by simp [hsz], by simp, by simp [maxLen], fun i e he => ?_, fun i j e c he hc => ?_⟩
    · cases i with
      | zero => simp at he; subst he; rfl
      | succ i => simp at he
    · cases i with
      | zero =>
        simp at he
        subst he
        obtain ⟨u, hu, hV⟩ := h2 j c hc
        refine ⟨u, by simpa using hu, hV.mono (fun _ h => h) (Beta.add_ext (M.beta_none hd)) (fun b hb => heap_alloc_old w _ (M.sub b hb))⟩
      | succ i => simp at he
  obtain ⟨E, M'⟩ := M.alloc hd (.cells v.cells t) (.var X.cells) X.cells.length 1 hob
  refine ⟨S, _, E, M', ?_⟩
  have := V.elt (S := S) (β := β.add d ⟨w.heap.size, X.cells.length, 1⟩) (w := w.alloc (.cells v.cells t)) d 0 0 _ (Beta.add_same _ _ _)
  simpa using this

theorem newVar_run {d : Nat} {X : AV} (h : (newVar d X sc).run (look hp) = some (res, rd)) : res.v = .elt d 0 0 ∧ res.upd = [(d, .var X.cells)] ∧ res.new = [d] := by
  injection h with h; injection h with h _; subst h; exact ⟨rfl, rfl, rfl⟩

theorem ok_box {t : TypeId} {x : Operand} {d : Nat} {X : AV} (ho : o.op = .box t x) (M : Mem F S β hp w) (hx : V S β w (a.eval x) X) (hX : isDead X = false) (hr : (newVar d X sc).run (look hp) = some (res, rd))
    (hn : ∀ id, id ∈ res.new → look hp id = none) : OpOK P F S β hp w a o res := by
  obtain ⟨e1, e2, e3⟩ := newVar_run hr
  obtain ⟨S', β', E, M', hv⟩ := new_var (t := t) M (hn d (by rw [e3]; simp)) hx hX
  refine ok_value (v := .pointer (some ⟨w.heap.size, 0, none⟩)) (w' := w.alloc (.cells (a.eval x).cells t)) ?_ E (by rw [e2]; exact M') (by rw [e1]; exact hv)
  simp [execOp, ho, Instr.box, Go.newVar, newRow]

theorem zero_of {t : TypeId} {z : AV} (h : zeroA P t = some z) : ∃ v, (zeroValue t).run P w = .ok v w ∧ V S β w v z ∧ ∃ i, P.info? t = some i ∧ i.zero = some v := by
  unfold zeroA at h
  obtain ⟨v, hv, rfl⟩ := Option.map_eq_some_iff.1 h
  obtain ⟨i, hi, hz⟩ := Option.bind_eq_some_iff.1 hv
  exact ⟨v, by simp [zeroValue, typeInfo, hi, hz], constA_sound v, i, hi, hz⟩

theorem ok_alloc {t : TypeId} {d : Nat} {X : AV} (ho : o.op = .alloc t) (M : Mem F S β hp w) (hz : zeroA P t = some X) (hX : isDead X = false) (hr : (newVar d X sc).run (look hp) = some (res, rd))
    (hn : ∀ id, id ∈ res.new → look hp id = none) : OpOK P F S β hp w a o res := by
  obtain ⟨e1, e2, e3⟩ := newVar_run hr
  obtain ⟨v, hrun, hv, _⟩ := zero_of (S := S) (β := β) (w := w) hz
  obtain ⟨S', β', E, M', hv⟩ := new_var (t := t) M (hn d (by rw [e3]; simp)) hv hX
  refine ok_value (v := .pointer (some ⟨w.heap.size, 0, none⟩)) (w' := w.alloc (.cells v.cells t)) ?_ E (by rw [e2]; exact M') (by rw [e1]; exact hv)
  simp [execOp, ho, Instr.alloc, hrun, Go.newVar, newRow]

end
end Go.Ped
