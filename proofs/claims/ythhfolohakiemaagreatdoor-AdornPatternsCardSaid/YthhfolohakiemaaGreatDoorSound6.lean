/-
  The engine, part 9: slices of slices and of texts; stores.
-/
import Derived.Test.YthhfolohakiemaaGreatDoorSound5
set_option linter.unusedVariables false
namespace Go.Ped
open Go.RowKit

section
variable {P : Program} {F : Fr} {S : Blk} {β : Beta} {hp : List (Nat × Ob)} {w : World} {a : Act} {o : Oper} {res : Res} {rd : List Nat} {sc : List Dir}

theorem over_get {α : Type} (cs xs : List α) (off j : Nat) (h : off + xs.length ≤ cs.length) :
    (cs.take off ++ xs ++ cs.drop (off + xs.length))[j]? = if j < off then cs[j]? else if j < off + xs.length then xs[j - off]? else cs[j]? := by
  have ht : (cs.take off).length = off := by rw [List.length_take]; omega
  by_cases h1 : j < off
  · rw [if_pos h1, List.append_assoc, List.getElem?_append_left (by omega), List.getElem?_take, if_pos h1]
  · rw [if_neg h1]
    by_cases h2 : j < off + xs.length
    · rw [if_pos h2, List.getElem?_append_left (by rw [List.length_append]; omega), List.getElem?_append_right (by omega), ht]
    · rw [if_neg h2, List.getElem?_append_right (by rw [List.length_append]; omega), List.length_append, ht, List.getElem?_drop]
      congr 1
      omega

theorem setRow_turns (g : Nat) (cur : Array Value) {bi : Bl} (h : bi.blk = g) : Turns bi w (w.setRow g cur) := by
  refine ⟨rfl, rfl, rfl, by simp, fun b hb hne => ?_⟩
  simp only [World.setRow, Array.getElem?_modify]
  rw [if_neg (by omega)]

theorem solid_one {v : Value} {c : AV} (h : V S β w v c) (hs : solid c = true) : v.oneCell' = true := by
  cases h <;> first
    | rfl
    | (cases hs; done)

/-- An element of a piece, cells of it written over. -/
theorem HR.over {bi : Bl} {es : List AV} (h : HR S β w bi es) (hS : ¬ S bi.blk) {k off : Nat} {e e' : AV} (he : es[k]? = some e) {vs : List Value} {xs : List AV} (hx : Each S β w vs xs) (hs : ∀ c, c ∈ xs → solid c = true)
    (hl : off + xs.length ≤ e.cells.length) (he' : e'.cells = overA e.cells off xs) :
    ∃ cur', (storeCells ⟨bi.blk, k * bi.sz + off, none⟩ vs).run P w = .ok () (w.setRow bi.blk cur') ∧ HR S β (w.setRow bi.blk cur') bi (es.set k e') := by
  obtain ⟨cur, t, h1, h2, h3, h4, h5, h6⟩ := h
  have hsz : e.cells.length = bi.sz := h5 k e he
  have hk : k < es.length := (List.getElem?_eq_some_iff.1 he).1
  have hkc : k + 1 ≤ bi.cap := by omega
  have hmul : k * bi.sz + bi.sz ≤ cur.size := by
    rw [h2]
    have := Nat.mul_le_mul_right bi.sz hkc
    rw [Nat.add_mul, Nat.one_mul] at this
    exact this
  have hvl : vs.length = xs.length := hx.1
  have hfit : k * bi.sz + off + vs.length ≤ cur.size := by omega
  have h1c : ∀ v, v ∈ vs → v.oneCell' = true := by
    intro v hv
    obtain ⟨i, hi⟩ := List.mem_iff_getElem?.1 hv
    have hilt : i < vs.length := (List.getElem?_eq_some_iff.1 hi).1
    have hxi : xs[i]? = some (xs[i]'(by omega)) := List.getElem?_eq_getElem (by omega)
    exact solid_one (hx.2 i v _ hi hxi) (hs _ (List.mem_of_getElem? hxi))
  refine ⟨(cur.toList.take (k * bi.sz + off) ++ vs ++ cur.toList.drop (k * bi.sz + off + vs.length)).toArray, ?_, ?_⟩
  · have := run_storeCells_at P bi.blk (k * bi.sz + off) t vs 0 cur w h1 (by simpa using hfit) h1c
    simpa using this
  · have hg' : (w.setRow bi.blk (cur.toList.take (k * bi.sz + off) ++ vs ++ cur.toList.drop (k * bi.sz + off + vs.length)).toArray).heap[bi.blk]? = some (.cells (cur.toList.take (k * bi.sz + off) ++ vs ++ cur.toList.drop (k * bi.sz + off + vs.length)).toArray t (0, 0)) :=
      setRow_heap w bi.blk cur _ t (0, 0) h1
    have hagr : Agr S w (w.setRow bi.blk (cur.toList.take (k * bi.sz + off) ++ vs ++ cur.toList.drop (k * bi.sz + off + vs.length)).toArray) := by
      intro b hb
      simp only [World.setRow, Array.getElem?_modify]
      rw [if_neg (by rintro rfl; exact hS hb)]
    have hel : e'.cells.length = bi.sz := by
      rw [he', overA]
      simp only [List.length_append, List.length_take, List.length_drop]
      omega
    refine ⟨_, t, hg', ?_, by simpa using h3, h4, fun i x hx' => ?_, fun i j x c hx' hc => ?_⟩
    · simp only [List.size_toArray, List.length_append, List.length_take, List.length_drop, Array.length_toList]
      rw [← h2]
      omega
    · rw [List.getElem?_set] at hx'
      split at hx'
      · first | (rw [if_pos hk] at hx'; injection hx' with hx'; subst hx'; exact hel) | (injection hx' with hx'; subst hx'; exact hel)
      · exact h5 i x hx'
    · have hget : ∀ m, (cur.toList.take (k * bi.sz + off) ++ vs ++ cur.toList.drop (k * bi.sz + off + vs.length)).toArray[m]? = if m < k * bi.sz + off then cur[m]? else if m < k * bi.sz + off + vs.length then vs[m - (k * bi.sz + off)]? else cur[m]? := by
        intro m
        have := over_get cur.toList vs (k * bi.sz + off) m (by simpa using hfit)
        simpa using this
      rw [List.getElem?_set] at hx'
      by_cases hki : k = i
      · subst hki
        rw [if_pos rfl, if_pos hk] at hx'
        injection hx' with hx'
        subst hx'
        rw [he', overA, over_get _ _ _ _ hl] at hc
        by_cases c1 : j < off
        · rw [if_pos c1] at hc
          obtain ⟨u, hu, hV⟩ := h6 k j e c he hc
          exact ⟨u, by rw [hget, if_pos (by omega)]; exact hu, hV.mono (fun _ h => h) (fun _ _ h => h) hagr⟩
        · rw [if_neg c1] at hc
          by_cases c2 : j < off + xs.length
          · rw [if_pos c2] at hc
            have hvj : vs[j - off]? = some (vs[j - off]'(by omega)) := List.getElem?_eq_getElem (by omega)
            refine ⟨_, ?_, (hx.2 _ _ c hvj hc).mono (fun _ h => h) (fun _ _ h => h) hagr⟩
            rw [hget, if_neg (by omega), if_pos (by omega), ← hvj]
            congr 1
            omega
          · rw [if_neg c2] at hc
            obtain ⟨u, hu, hV⟩ := h6 k j e c he hc
            exact ⟨u, by rw [hget, if_neg (by omega), if_neg (by omega)]; exact hu, hV.mono (fun _ h => h) (fun _ _ h => h) hagr⟩
      · rw [if_neg hki] at hx'
        obtain ⟨u, hu, hV⟩ := h6 i j x c hx' hc
        have hxl := h5 i x hx'
        have hjl : j < bi.sz := by have := (List.getElem?_eq_some_iff.1 hc).1; omega
        refine ⟨u, ?_, hV.mono (fun _ h => h) (fun _ _ h => h) hagr⟩
        rw [hget, ← hu]
        by_cases c1 : i * bi.sz + j < k * bi.sz + off
        · rw [if_pos c1]
        · rw [if_neg c1, if_neg]
          intro c2
          rcases Nat.lt_or_gt_of_ne hki with h | h
          · have := Nat.mul_le_mul_right bi.sz (show k + 1 ≤ i by omega)
            rw [Nat.add_mul, Nat.one_mul] at this
            omega
          · have := Nat.mul_le_mul_right bi.sz (show i + 1 ≤ k by omega)
            rw [Nat.add_mul, Nat.one_mul] at this
            omega

theorem each_of_V {v : Value} {x : AV} (h : V S β w v x) (hx : x ≠ .dead) : Each S β w v.cells.toList x.cells := by
  obtain ⟨h1, h2⟩ := h.cells hx
  refine ⟨by simpa using h1, fun i u c hi hc => ?_⟩
  obtain ⟨u', hu', hV⟩ := h2 i c hc
  have : v.cells[i]? = some u := by simpa using hi
  rw [this] at hu'
  injection hu' with hu'
  subst hu'
  exact hV

theorem solid_dead {x : AV} (h : x.cells.all solid = true) : x ≠ .dead := by rintro rfl; cases h

theorem ok_store {t : TypeId} {x y : Operand} {p X : AV} (ho : o.op = .store t x y) (M : Mem F S β hp w) (hp' : V S β w (a.eval x) p) (hx : V S β w (a.eval y) X) (hr : (storeA P t p X sc).run (look hp) = some (res, rd)) (hc : ∀ c, c ∈ res.cs → c.p) :
    OpOK P F S β hp w a o res := by
  unfold storeA at hr
  by_cases hsol : X.cells.all solid = false
  · rw [if_pos hsol] at hr; cases hr
  rw [if_neg hsol] at hr
  have hsol : X.cells.all solid = true := by simpa using hsol
  have hXs : ∀ c, c ∈ X.cells → solid c = true := List.all_eq_true.1 hsol
  by_cases hsz : sizeA P t ≠ some X.cells.length
  · rw [if_pos hsz] at hr; cases hr
  rw [if_neg hsz] at hr
  have hsz : sizeA P t = some X.cells.length := Decidable.not_not.1 hsz
  have hE := each_of_V hx (solid_dead hsol)
  have hvsz : (a.eval y).cells.size = X.cells.length := by have := hE.1; simpa using this
  -- what is left, once the place and the piece are known
  have fin : ∀ {id k off : Nat} {bi : Bl} {ob ob' : Ob} {es es' : List AV} {e : AV}, a.eval x = .pointer (some ⟨bi.blk, k * bi.sz + off, none⟩) → β id = some bi → look hp id = some ob → ob ≠ .dead → HR S β w bi es → es[k]? = some e →
      off + X.cells.length ≤ e.cells.length → (∀ w', HR S β w' bi (es.set k (.agg (overA e.cells off X.cells))) → HO S β w' id ob') → res.v = .dead → res.upd = [(id, ob')] → OpOK P F S β hp w a o res := by
    intro id k off bi ob ob' es es' e hv hb hl hd hHR hek hle hmk e1 e2
    obtain ⟨cur', r1, r2⟩ := hHR.over (P := P) (M.own id bi hb).1 (e' := .agg (overA e.cells off X.cells)) hek hE hXs hle rfl
    obtain ⟨E, M'⟩ := M.turn hb hl hd (setRow_turns bi.blk cur' rfl) ob' (hmk _ r2)
    refine ok_skip (w' := w.setRow bi.blk cur') ?_ E (by rw [e2]; exact M') e1
    have : (Instr.storeAt t (.pointer (some ⟨bi.blk, k * bi.sz + off, none⟩)) (a.eval y)).run P w = .ok () (w.setRow bi.blk cur') := by
      simp [Instr.storeAt, Instr.sureAddr, storeVar, run_sizeOfA hsz, hvsz, r1]
    simp [execOp, ho, hv, this]
  cases p with
  | elt id k off =>
    simp only [Rd.run] at hr
    cases hl : look hp id with
    | none => rw [hl] at hr; cases hr
    | some ob =>
      rw [hl] at hr
      have hob := M.obs id ob hl
      generalize hv : a.eval x = v at hp'
      cases hp' with
      | elt _ _ _ bi hb =>
        cases ob with
        | var cs =>
          simp only at hr
          by_cases hk : k = 0 ∧ off + X.cells.length ≤ cs.length
          · rw [if_pos hk] at hr
            injection hr with hr; injection hr with hr _; subst hr
            obtain ⟨bj, q1, q2, q3⟩ := hob
            rw [hb] at q1; injection q1 with q1; subst q1
            obtain ⟨rfl, hle⟩ := hk
            exact fin (ob' := .var (overA cs off X.cells)) (es := [.agg cs]) (es' := []) (e := .agg cs) hv hb hl (by simp) q3 rfl hle (fun w' h => ⟨bi, hb, q2, h⟩) rfl rfl
          · rw [if_neg hk] at hr; cases hr
        | row sz es =>
          simp only at hr
          obtain ⟨bj, q1, q2, q3⟩ := hob
          rw [hb] at q1; injection q1 with q1; subst q1
          by_cases hw : off = 0 ∧ X.cells.length = sz
          · rw [if_pos hw] at hr
            injection hr with hr; injection hr with hr _; subst hr
            have hk : k < es.length := hc _ (List.mem_singleton.2 rfl)
            obtain ⟨rfl, hXl⟩ := hw
            have hek : es[k]? = some es[k] := List.getElem?_eq_getElem hk
            have hcl : es[k].cells.length = bi.sz := by obtain ⟨_, _, _, _, _, _, h5, _⟩ := q3; exact h5 k _ hek
            have hover : overA es[k].cells 0 X.cells = X.cells := by
              unfold overA
              rw [List.take_zero, List.nil_append, List.drop_of_length_le (by omega), List.append_nil]
            refine fin (ob' := .row sz (es.set k X)) (es := es) (es' := []) (e := es[k]) hv hb hl (by simp) q3 hek (by omega) (fun w' h => ⟨bi, hb, q2, ?_⟩) rfl rfl
            rw [hover] at h
            obtain ⟨cur, ty, h1, h2, h3, h4, h5, h6⟩ := h
            refine ⟨cur, ty, h1, h2, by simpa using h3, h4, fun i z hz => ?_, fun i j z c hz hc => ?_⟩
            · by_cases hki : k = i
              · subst hki
                rw [List.getElem?_set, if_pos rfl, if_pos hk] at hz
                injection hz with hz
                subst hz
                omega
              · exact h5 i z (by rw [List.getElem?_set, if_neg hki] at hz ⊢; exact hz)
            · by_cases hki : k = i
              · subst hki
                rw [List.getElem?_set, if_pos rfl, if_pos hk] at hz
                injection hz with hz
                subst hz
                exact h6 k j (.agg X.cells) c (by rw [List.getElem?_set, if_pos rfl, if_pos hk]) hc
              · exact h6 i j z c (by rw [List.getElem?_set, if_neg hki] at hz ⊢; exact hz) hc
          · rw [if_neg hw] at hr
            cases sc with
            | nil => cases hr
            | cons dd sc' =>
              cases dd with
              | elt e =>
                simp only at hr
                by_cases hle : off + X.cells.length ≤ e.cells.length
                · rw [if_pos hle] at hr
                  injection hr with hr; injection hr with hr _; subst hr
                  have hek : es[k]? = some e := hc _ (List.mem_singleton.2 rfl)
                  exact fin (ob' := .row sz (es.set k (.agg (overA e.cells off X.cells)))) (es := es) (es' := []) (e := e) hv hb hl (by simp) q3 hek hle (fun w' h => ⟨bi, hb, q2, h⟩) rfl rfl
                · rw [if_neg hle] at hr; cases hr
              | _ => cases hr
        | map ks vs => cases hr
        | dead => cases hr
  | _ => cases hr

end
end Go.Ped
