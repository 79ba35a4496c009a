/-
  The engine, part 12: rows: slices that are written out, made, put behind one another.
-/
import Derived.Test.YthhfolohakiemaaGreatDoorSound8
set_option linter.unusedVariables false
namespace Go.Ped
open Go.RowKit

/-- All cells of elements, one behind the other. -/
def flat (es : List AV) : List AV := (es.map AV.cells).flatten

theorem flat_nil : flat [] = [] := rfl
theorem flat_cons (e : AV) (es : List AV) : flat (e :: es) = e.cells ++ flat es := by simp [flat]
theorem flat_append (es fs : List AV) : flat (es ++ fs) = flat es ++ flat fs := by simp [flat]
theorem flat_length {sz : Nat} : ∀ {es : List AV}, (∀ e, e ∈ es → e.cells.length = sz) → (flat es).length = es.length * sz
  | [], _ => by simp [flat]
  | e :: es, h => by
    rw [flat_cons, List.length_append, h e (by simp), flat_length (fun x hx => h x (by simp [hx])), List.length_cons, Nat.add_mul, Nat.one_mul, Nat.add_comm]
theorem flat_get {sz : Nat} : ∀ {es : List AV}, (∀ e, e ∈ es → e.cells.length = sz) → ∀ {i j : Nat} {e : AV}, es[i]? = some e → j < sz → (flat es)[i * sz + j]? = e.cells[j]?
  | [], _, i, j, e, h, _ => by simp at h
  | x :: es, hs, 0, j, e, h, hj => by
    simp at h
    subst h
    rw [flat_cons, Nat.zero_mul, Nat.zero_add, List.getElem?_append_left (by rw [hs x (by simp)]; exact hj)]
  | x :: es, hs, i + 1, j, e, h, hj => by
    rw [flat_cons, List.getElem?_append_right (by rw [hs x (by simp), Nat.add_mul, Nat.one_mul]; omega), hs x (by simp)]
    have := flat_get (es := es) (fun y hy => hs y (List.mem_cons_of_mem _ hy)) (i := i) (j := j) (e := e) (by simpa using h) hj
    rw [← this]
    congr 1
    rw [Nat.add_mul, Nat.one_mul]; omega

theorem collect {Q : Nat → Value → Prop} : ∀ (n : Nat), (∀ m, m < n → ∃ u, Q m u) → ∃ l : List Value, l.length = n ∧ ∀ (m : Nat) u, l[m]? = some u → Q m u
  | 0, _ => ⟨[], rfl, by simp⟩
  | n + 1, h => by
    obtain ⟨l, hl, hq⟩ := collect n (fun m hm => h m (by omega))
    obtain ⟨u, hu⟩ := h n (by omega)
    refine ⟨l ++ [u], by simp [hl], fun m v hv => ?_⟩
    by_cases hm : m < n
    · rw [List.getElem?_append_left (by omega)] at hv; exact hq m v hv
    · have hml : m < (l ++ [u]).length := (List.getElem?_eq_some_iff.1 hv).1
      have : m = n := by simp [hl] at hml; omega
      subst this
      rw [List.getElem?_append_right (by omega)] at hv
      simp [hl] at hv
      subst hv
      exact hu

section
variable {P : Program} {F : Fr} {S : Blk} {β : Beta} {hp : List (Nat × Ob)} {w : World} {a : Act} {o : Oper} {res : Res} {rd : List Nat} {sc : List Dir}

theorem Each.append {vs us : List Value} {xs ys : List AV} (h : Each S β w vs xs) (k : Each S β w us ys) : Each S β w (vs ++ us) (xs ++ ys) := by
  refine ⟨by rw [List.length_append, List.length_append, h.1, k.1], fun i v x hv hx => ?_⟩
  by_cases c : i < vs.length
  · rw [List.getElem?_append_left c] at hv
    rw [List.getElem?_append_left (by rw [← h.1]; exact c)] at hx
    exact h.2 i v x hv hx
  · rw [List.getElem?_append_right (by omega)] at hv
    rw [List.getElem?_append_right (by rw [← h.1]; omega), ← h.1] at hx
    exact k.2 _ v x hv hx

theorem Each.mono {S' : Blk} {β' : Beta} {w' : World} (E : Ext S S' β β' w w') {vs : List Value} {xs : List AV} (h : Each S β w vs xs) : Each S' β' w' vs xs := ⟨h.1, fun i v x h1 h2 => (h.2 i v x h1 h2).ext E⟩

theorem HR.of_flat {bi : Bl} {es : List AV} {cur : Array Value} {t : TypeId} (h1 : w.heap[bi.blk]? = some (.cells cur t (0, 0))) (h2 : cur.size = bi.cap * bi.sz) (h3 : es.length ≤ bi.cap) (h4 : bi.cap ≤ maxLen)
    (h5 : ∀ e, e ∈ es → e.cells.length = bi.sz) (h6 : Each S β w (cur.toList.take (es.length * bi.sz)) (flat es)) : HR S β w bi es := by
  refine ⟨cur, t, h1, h2, h3, h4, fun i e he => h5 e (List.mem_of_getElem? he), fun i j e c he hc => ?_⟩
  have hj : j < bi.sz := by rw [← h5 e (List.mem_of_getElem? he)]; exact (List.getElem?_eq_some_iff.1 hc).1
  have hf := flat_get h5 he hj
  rw [hc] at hf
  have hlt := (List.getElem?_eq_some_iff.1 hf).1
  have hv : (cur.toList.take (es.length * bi.sz))[i * bi.sz + j]? = some ((cur.toList.take (es.length * bi.sz))[i * bi.sz + j]'(by rw [h6.1]; exact hlt)) := List.getElem?_eq_getElem _
  refine ⟨_, ?_, h6.2 _ _ c hv hf⟩
  have h7 := hv
  rw [List.getElem?_take] at h7
  split at h7
  · rw [Array.getElem?_toList] at h7; exact h7
  · cases h7

theorem HR.flat_ {bi : Bl} {es : List AV} (h : HR S β w bi es) : ∃ cur t, w.heap[bi.blk]? = some (.cells cur t (0, 0)) ∧ cur.size = bi.cap * bi.sz ∧ es.length ≤ bi.cap ∧ bi.cap ≤ maxLen ∧ (∀ e, e ∈ es → e.cells.length = bi.sz) ∧
    Each S β w (cur.toList.take (es.length * bi.sz)) (flat es) := by
  obtain ⟨cur, t, h1, h2, h3, h4, h5, h6⟩ := h
  have h5' : ∀ e, e ∈ es → e.cells.length = bi.sz := fun e he => by obtain ⟨i, hi⟩ := List.mem_iff_getElem?.1 he; exact h5 i e hi
  have hle : es.length * bi.sz ≤ cur.size := by rw [h2]; exact Nat.mul_le_mul_right _ h3
  refine ⟨cur, t, h1, h2, h3, h4, h5', by rw [flat_length h5', List.length_take]; have : cur.toList.length = cur.size := Array.length_toList; omega, fun m v x hv hx => ?_⟩
  have hm : m < es.length * bi.sz := by rw [← flat_length h5']; exact (List.getElem?_eq_some_iff.1 hx).1
  have hpos : 0 < bi.sz := by
    rcases Nat.eq_zero_or_pos bi.sz with h | h
    · rw [h] at hm; simp at hm
    · exact h
  have hi : m / bi.sz < es.length := Nat.div_lt_of_lt_mul (by rw [Nat.mul_comm]; exact hm)
  have hj : m % bi.sz < bi.sz := Nat.mod_lt _ hpos
  have hmd : m / bi.sz * bi.sz + m % bi.sz = m := by rw [Nat.mul_comm]; exact Nat.div_add_mod m bi.sz
  have he : es[m / bi.sz]? = some es[m / bi.sz] := List.getElem?_eq_getElem hi
  have hf := flat_get h5' he hj
  rw [hmd, hx] at hf
  obtain ⟨u, hu, hV⟩ := h6 _ _ _ x he hf.symm
  rw [hmd] at hu
  rw [List.getElem?_take, if_pos hm] at hv
  have : cur[m]? = some v := by simpa using hv
  rw [this] at hu
  injection hu with hu
  subst hu
  exact hV

/-- A new row. -/
theorem new_row {d n cap sz : Nat} {es : List AV} {cur : Array Value} {t : TypeId} (M : Mem F S β hp w) (hd : look hp d = none) (hn : es.length = n) (h2 : cur.size = cap * sz) (h3 : n ≤ cap) (h4 : cap ≤ maxLen) (h5 : ∀ e, e ∈ es → e.cells.length = sz)
    (h6 : Each S β w (cur.toList.take (n * sz)) (flat es)) :
    ∃ S' β', Ext S S' β β' w (w.alloc (.cells cur t)) ∧ Mem F S' β' (putL hp d (.row sz es)) (w.alloc (.cells cur t)) ∧ V S' β' (w.alloc (.cells cur t)) (.slice (some ⟨w.heap.size, 0, none⟩) n cap) (.row d 0 n) := by
  have hE0 : Ext S S β (β.add d ⟨w.heap.size, sz, cap⟩) w (w.alloc (.cells cur t)) := ⟨fun _ h => h, Beta.add_ext (M.beta_none hd), fun b hb => heap_alloc_old w _ (M.sub b hb)⟩
  have hob : HO S (β.add d ⟨w.heap.size, sz, cap⟩) (w.alloc (.cells cur t)) d (.row sz es) :=
    ⟨_, Beta.add_same _ _ _, rfl, HR.of_flat (heap_alloc_new w _) h2 (by rw [hn]; exact h3) h4 h5 (by rw [hn]; exact h6.mono hE0)⟩
  obtain ⟨E, M'⟩ := M.alloc hd (.cells cur t) (.row sz es) sz cap hob
  refine ⟨S, _, E, M', ?_⟩
  have := V.row (S := S) (β := β.add d ⟨w.heap.size, sz, cap⟩) (w := w.alloc (.cells cur t)) d 0 n ⟨w.heap.size, 0, none⟩ _ (Beta.add_same _ _ _) (by simpa using h3) (fun _ => by simp)
  simpa using this

theorem fill_flat {n sz : Nat} (hsz : 0 < sz) : ∀ (ps : List (Nat × AV)) (k : Nat) (cs : List AV), ps.map (·.1) = List.range' k ps.length → (∀ p, p ∈ ps → isDead p.2 = false ∧ p.2.cells.length = sz) → k + ps.length = n → cs.length = n * sz →
    fillA (fun i => some (i * sz, sz)) cs ps = some (cs.take (k * sz) ++ flat (ps.map (·.2)))
  | [], k, cs, _, _, hk, hl => by
    simp only [fillA, List.map_nil, flat_nil, List.append_nil]
    rw [List.take_of_length_le (by rw [hl, ← hk]; simp)]
  | (i, v) :: ps, k, cs, hi, hv, hk, hl => by
    simp only [List.map_cons, List.length_cons, List.range'_succ] at hi
    injection hi with h1 h2
    subst h1
    obtain ⟨d1, d2⟩ := hv (i, v) (by simp)
    simp only [List.length_cons] at hk
    have hle : i * sz + sz ≤ cs.length := by
      rw [hl]
      have := Nat.mul_le_mul_right sz (show i + 1 ≤ n by omega)
      rw [Nat.add_mul, Nat.one_mul] at this
      exact this
    simp only [fillA]
    rw [if_neg (by simp only [d1, d2, Bool.false_eq_true, ne_eq, not_true_eq_false, false_or]; omega)]
    simp only at d2
    have hol : (overA cs (i * sz) v.cells).length = n * sz := by
      simp only [overA, List.length_append, List.length_take, List.length_drop, d2]; omega
    rw [fill_flat hsz ps (i + 1) _ h2 (fun p hp => hv p (by simp [hp])) (by omega) hol]
    congr 1
    simp only [List.map_cons, flat_cons, ← List.append_assoc]
    congr 1
    have : (i + 1) * sz = i * sz + sz := by rw [Nat.add_mul, Nat.one_mul]
    rw [this, overA, List.take_append_of_le_length (by simp only [List.length_append, List.length_take, d2]; omega), List.take_of_length_le (by simp only [List.length_append, List.length_take, d2]; omega)]

theorem ok_buildSlice {t : TypeId} {n d : Nat} {ps : Array (Nat × Operand)} {qs : List (Nat × AV)} (ho : o.op = .buildSlice t n ps) (M : Mem F S β hp w) (hP : Parts S β w (ps.toList.map fun x => (x.1, a.eval x.2)) qs)
    (hr : (rowOf P d t n qs sc).run (look hp) = some (res, rd)) (hn : ∀ id, id ∈ res.new → look hp id = none) : OpOK P F S β hp w a o res := by
  unfold rowOf at hr
  cases hu : P.underlying t with
  | none => rw [hu] at hr; cases hr
  | some ds =>
    rw [hu] at hr
    cases ds <;> first
      | (cases hr; done)
      | skip
    rename_i e
    simp only at hr
    cases hs : sizeA P e with
    | none => rw [hs] at hr; cases hr
    | some sz =>
      cases hz : zeroA P e with
      | none => rw [hs, hz] at hr; cases hr
      | some z =>
        rw [hs, hz] at hr
        simp only at hr
        obtain ⟨zv, hzrun, hzV, iz, hiz, hzz⟩ := zero_of (S := S) (β := β) (w := w) hz
        by_cases h0 : n = 0
        · rw [if_pos h0] at hr
          by_cases hem : qs.isEmpty = true
          · rw [if_pos hem] at hr
            obtain ⟨e1, e2, _, _⟩ := val_run hr
            subst h0
            have hqs : qs = [] := List.isEmpty_iff.1 hem
            subst hqs
            have hps : ps.toList = [] := by
              cases h : ps.toList with
              | nil => rfl
              | cons x xs => rw [h] at hP; exact hP.elim
            have hrun : (Instr.buildSlice t 0 (ps.map fun (i, x) => (i, a.eval x))).run P w = .ok (.slice (some ⟨w.heap.size, 0, none⟩) 0 0) (w.alloc (.cells #[] e)) := by
              simp [Instr.buildSlice, run_underlying hu, run_sizeOfA hs, hps, Instr.fill, newRow, Array.range_zero']
            have hE : Ext S S β β w (w.alloc (.cells #[] e)) := ⟨fun _ h => h, fun _ _ h => h, fun b hb => heap_alloc_old w _ (M.sub b hb)⟩
            refine ok_value (v := .slice (some ⟨w.heap.size, 0, none⟩) 0 0) (w' := w.alloc (.cells #[] e)) (S' := S) (β' := β) ?_ hE ?_ ?_
            · simp [execOp, ho, hrun]
            · rw [e2]
              refine ⟨M.tab, M.os, M.tape, M.output, by have := M.size; simp; omega, fun b h1 h2 => ?_, fun id x hx => ?_, M.dom, M.inj, fun i bi hi => ?_, fun b hb => ?_, M.base, M.new, M.giv⟩
              · rw [heap_alloc_old w _ (by have := M.size; omega)]; exact M.keep b h1 h2
              · exact (M.obs id x hx).mono (fun _ h => h) (fun _ _ h => h) hE.agr (fun bi hi => heap_alloc_old w _ (M.own id bi hi).2.1)
              · obtain ⟨h1, h2, h3⟩ := M.own i bi hi; exact ⟨h1, by simp; omega, h3⟩
              · have := M.sub b hb; simp; omega
            · rw [e1]
              exact .seq _ 0 0 0 0 [] true (fun _ _ => undef) (by simp) (by simp [maxLen]) (fun _ => rfl) (fun h => absurd rfl h) (by simp) (by simp) (by simp)
          · rw [if_neg hem] at hr; cases hr
        · rw [if_neg h0] at hr
          by_cases hall : qs.map (·.1) = List.range n ∧ qs.all (fun x => !isDead x.2 && x.2.cells.length == sz) ∧ n * sz ≤ 16777216 ∧ 0 < sz ∧ z.cells.length = sz
          · rw [if_pos hall] at hr
            injection hr with hr; injection hr with hr _; subst hr
            obtain ⟨g1, g2, g3, g4, g5⟩ := hall
            have hql : qs.length = n := by have := congrArg List.length g1; simpa using this
            have hqv : ∀ p, p ∈ qs → isDead p.2 = false ∧ p.2.cells.length = sz := by
              intro p hp
              have := List.all_eq_true.1 g2 p hp
              simpa using this
            have hfill := fill_flat (n := n) g4 qs 0 (List.replicate (n * sz) .dead) (by rw [g1, hql, List.range_eq_range']) hqv (by omega) (by simp)
            simp only [Nat.zero_mul, List.take_zero, List.nil_append] at hfill
            let cells0 : Array Value := (Array.range (n * sz)).map (zv.cells[· % zv.cells.size]!)
            have hE0 : Each S β w cells0.toList (List.replicate (n * sz) .dead) := by
              refine ⟨by simp [cells0], fun i v x hv hx => ?_⟩
              rw [List.getElem?_replicate] at hx
              split at hx
              · injection hx with hx; subst hx; exact .dead _
              · cases hx
            obtain ⟨out, f1, f2⟩ := fill_sound _ _ _ cells0 _ _ hP hE0 hfill
            have huni : ∀ e, e ∈ qs.map (·.2) → e.cells.length = sz := by
              intro e he
              obtain ⟨p, hp, rfl⟩ := List.mem_map.1 he
              exact (hqv p hp).2
            have hfl : (flat (qs.map (·.2))).length = n * sz := by rw [flat_length huni, List.length_map, hql]
            have hout : out.size = n * sz := by have := f2.1; rw [hfl] at this; simpa using this
            have hlen63 : n ≤ maxLen := by
              have : n * 1 ≤ n * sz := Nat.mul_le_mul_left n g4
              simp only [maxLen]
              omega
            obtain ⟨S', β', E, M', hv⟩ := new_row (d := d) (n := n) (cap := n) (sz := sz) (es := qs.map (·.2)) (cur := out) (t := e) M (hn d (by simp)) (by simp [hql]) hout (Nat.le_refl _) hlen63 huni
              (by rw [List.take_of_length_le (by simp [hout])]; exact f2)
            refine ok_value (v := .slice (some ⟨w.heap.size, 0, none⟩) n n) (w' := w.alloc (.cells out e)) ?_ E M' hv
            have hne : ¬ (n * sz = 0) := by
              have : 0 < n * sz := Nat.mul_pos (by omega) g4
              omega
            have hle : ¬ (n * sz > 16777216) := by omega
            have f1' : Instr.fill (fun i => some (i * sz, sz)) cells0 ((ps.map fun (i, x) => (i, a.eval x)).toList) = some out := by
              rw [Array.toList_map]; exact f1
            have hrun : (Instr.buildSlice t n (ps.map fun (i, x) => (i, a.eval x))).run P w = .ok (.slice (some ⟨w.heap.size, 0, none⟩) n n) (w.alloc (.cells out e)) := by
              simp only [Instr.buildSlice, Sem.run_bind, run_underlying hu, Result.andThen_ok, run_sizeOfA hs]
              rw [if_neg (by simpa using hle), if_neg hne]
              simp only [Sem.run_bind, Sem.run_pure, Result.andThen_ok, hzrun]
              simp only [cells0] at f1'
              rw [f1']
              simp [newRow]
            simp [execOp, ho, hrun]
          · rw [if_neg hall] at hr; cases hr

end
end Go.Ped
