/-
  The engine, part 4: each operation of the machine does what 'evalOp' says.
-/
import Derived.Test.YthhfolohakiemaaGreatDoorMem
set_option linter.unusedVariables false
namespace Go.Ped
open Go.RowKit

section
variable {P : Program} {F : Fr} {S : Blk} {β : Beta} {hp : List (Nat × Ob)} {w : World} {a : Act} {o : Oper} {res : Res} {rd : List Nat} {sc : List Dir}

/-- What is shown of an operation. -/
def OpOK (P : Program) (F : Fr) (S : Blk) (β : Beta) (hp : List (Nat × Ob)) (w : World) (a : Act) (o : Oper) (res : Res) : Prop :=
  ∀ (K : Act → World → Prop) (Q : Exit → Act → World → Prop),
    (∀ v w' S' β', Ext S S' β β' w w' → Mem F S' β' (putAll hp res.upd) w' → V S' β' w' v res.v → K (a.put o.dst v) w') → o.upon P a K Q ((execOp a.eval o).run P w)

theorem ok_value {v : Value} {w' : World} {S' : Blk} {β' : Beta} (hr : (execOp a.eval o).run P w = .ok (.value v) w') (E : Ext S S' β β' w w') (M : Mem F S' β' (putAll hp res.upd) w') (hv : V S' β' w' v res.v) :
    OpOK P F S β hp w a o res := by
  intro K Q h
  rw [hr]
  exact h v w' S' β' E M hv

theorem ok_skip {w' : World} {S' : Blk} {β' : Beta} (hr : (execOp a.eval o).run P w = .ok .skip w') (E : Ext S S' β β' w w') (M : Mem F S' β' (putAll hp res.upd) w') (hv : res.v = .dead) :
    OpOK P F S β hp w a o res := by
  intro K Q h
  rw [hr]
  exact h undef w' S' β' E M (by rw [hv]; exact .dead _)

/-- A value that comes of nothing but the operands. -/
theorem ok_same {v : Value} (M : Mem F S β hp w) (hr : (execOp a.eval o).run P w = .ok (.value v) w) (hu : res.upd = []) (hv : V S β w v res.v) : OpOK P F S β hp w a o res :=
  ok_value hr (Ext.refl _ _ _) (by rw [hu]; exact M) hv

theorem val_run {x : AV} (h : (val x sc).run (look hp) = some (res, rd)) : res.v = x ∧ res.upd = [] ∧ res.new = [] ∧ res.cs = [] := by
  injection h with h; injection h with h _; subst h; exact ⟨rfl, rfl, rfl, rfl⟩
theorem valIf_run {x : AV} {c : Prop} [Chk c] (h : (valIf x c sc).run (look hp) = some (res, rd)) : res.v = x ∧ res.upd = [] ∧ res.new = [] ∧ res.cs = [mkC c] := by
  injection h with h; injection h with h _; subst h; exact ⟨rfl, rfl, rfl, rfl⟩
theorem truth_run {b : Bool} (h : (truth b sc).run (look hp) = some (res, rd)) (hc : ∀ c, c ∈ res.cs → c.p) : res.v = .bool b ∧ res.upd = [] := by
  unfold truth at h
  split at h
  · obtain ⟨h1, h2, _, h4⟩ := valIf_run h
    have := hc _ (by rw [h4]; exact List.mem_singleton.2 rfl)
    exact ⟨by rw [h1, this], h2⟩
  · obtain ⟨h1, h2, _, _⟩ := val_run h
    exact ⟨h1, h2⟩
  · cases h

theorem V.unNil {v : Value} {x : AV} (h : V S β w v x) : V S β w v (Ped.unNil x) := by
  cases h with
  | nils => exact .seq none 0 0 0 0 [] true (fun _ _ => undef) (by simp) (by simp [maxLen]) (fun _ => rfl) (fun h => absurd rfl h) (by simp) (by simp) (by simp)
  | int k n => exact .int k n
  | bool b => exact .bool b
  | str s => exact .str s
  | agg vs cs hl h => exact .agg vs cs hl h
  | tup vs cs hl h => exact .tup vs cs hl h
  | seq p cap sz b o es clip U hcap hmax hclip hp hsz hc hv => exact .seq p cap sz b o es clip U hcap hmax hclip hp hsz hc hv
  | row id off len a bi hb hle ha => exact .row id off len a bi hb hle ha
  | tptr b o cs U hb hc hv => exact .tptr b o cs U hb hc hv
  | elt id k off bi hb => exact .elt id k off bi hb
  | nilp => exact .nilp
  | map id bi hb => exact .map id bi hb
  | tmap r es cl ks vs hb hr hk hl hkv hvv => exact .tmap r es cl ks vs hb hr hk hl hkv hvv
  | nilmap => exact .nilmap
  | clo f fs gs first cap hf hg hfv hgv => exact .clo f fs gs first cap hf hg hfv hgv
  | nilf => exact .nilf
  | iface t v x h => exact .iface t v x h
  | nili => exact .nili
  | dead v => exact .dead v

theorem const1_sound (v : Value) : V S β w v (const1 v) := by
  unfold const1
  split
  · exact .int _ _
  · exact .bool _
  · exact .str _
  · exact .nilp
  · exact .nils
  · exact .nilmap
  · exact .nilf
  · exact .nili
  · exact .dead _

theorem constA_sound (v : Value) : V S β w v (constA v) := by
  unfold constA
  split
  · rename_i cs
    have : V S β w (.agg cs.toList.toArray) (.agg (cs.toList.map const1)) := by
      refine .agg _ _ (by simp) fun i v c h1 h2 => ?_
      rw [List.getElem?_map, h1] at h2
      injection h2 with h2
      subst h2
      exact const1_sound v
    simpa using this
  · exact const1_sound v

theorem evalA_sound {n : Nat} {env : List (Nat × AV)} (E : Env S β w n env a) (x : Operand) : V S β w (a.eval x) (evalA env x) := by
  cases x with
  | tmp t => exact E.2.2 t
  | const v => exact constA_sound v
  | global g => exact .dead _
  | func f => exact .clo f [] [] [] [] rfl rfl (by simp) (by simp)

/-! ### Sizes and shapes of types -/

theorem run_sizeOfA {t : TypeId} {n : Nat} (h : sizeA P t = some n) : (sizeOf t).run P w = .ok n w := by
  unfold sizeA at h
  obtain ⟨i, hi, rfl⟩ := Option.map_eq_some_iff.1 h
  simp [sizeOf, typeInfo, hi]

theorem run_isAggA {t : TypeId} {b : Bool} (h : aggA P t = some b) : (isAgg t).run P w = .ok b w := by
  unfold aggA at h
  cases hu : P.underlying t with
  | none => rw [hu] at h; cases h
  | some d =>
    rw [hu] at h
    cases d <;> simp at h <;> subst h <;> simp [isAgg, run_underlying hu]

theorem run_loadCellsA (b o : Nat) (cs : List Value) (h : ∀ (j : Nat) v, cs[j]? = some v → w.cell? ⟨b, o + j, none⟩ = some v) : (loadCells ⟨b, o, none⟩ cs.length).run P w = .ok cs.toArray w := by
  have := run_loadCells_list (P := P) w ⟨b, o, none⟩ cs (fun j v hj => by rw [Addr.add_lit]; exact h j v hj)
  simpa using this

/-- A value read out of cells. -/
theorem read_sound {t : TypeId} {cs : List AV} {x : AV} (hr : readA P t cs = some x) (b o : Nat) (hc : ∀ (j : Nat) c, cs[j]? = some c → ∃ u, w.cell? ⟨b, o + j, none⟩ = some u ∧ V S β w u c) :
    ∃ v, (loadVar t ⟨b, o, none⟩).run P w = .ok v w ∧ V S β w v x := by
  unfold readA at hr
  cases ha : aggA P t with
  | none => rw [ha] at hr; simp at hr
  | some g =>
    cases hs : sizeA P t with
    | none => rw [ha, hs] at hr; cases g <;> simp at hr
    | some n =>
      rw [ha, hs] at hr
      cases g with
      | true =>
        simp only at hr
        split at hr
        · rename_i hle
          injection hr with hr
          subst hr
          have hex : ∃ vs : List Value, vs.length = n ∧ ∀ (j : Nat) v, vs[j]? = some v → w.cell? ⟨b, o + j, none⟩ = some v ∧ ∀ c, cs[j]? = some c → V S β w v c := by
            have : ∀ m, m ≤ n → ∃ vs : List Value, vs.length = m ∧ ∀ (j : Nat) v, vs[j]? = some v → w.cell? ⟨b, o + j, none⟩ = some v ∧ ∀ c, cs[j]? = some c → V S β w v c := by
              intro m
              induction m with
              | zero => intro _; exact ⟨[], rfl, by simp⟩
              | succ m ih =>
                intro hm
                obtain ⟨vs, hl, hv⟩ := ih (by omega)
                have hlt : m < cs.length := by omega
                obtain ⟨u, hu, hV⟩ := hc m _ (List.getElem?_eq_getElem hlt)
                refine ⟨vs ++ [u], by simp [hl], fun j v hj => ?_⟩
                by_cases hjm : j < m
                · rw [List.getElem?_append_left (by omega)] at hj; exact hv j v hj
                · have hjl : j < (vs ++ [u]).length := (List.getElem?_eq_some_iff.1 hj).1
                  have : j = m := by simp [hl] at hjl; omega
                  subst this
                  rw [List.getElem?_append_right (by omega)] at hj
                  simp [hl] at hj
                  subst hj
                  refine ⟨hu, fun c hcj => ?_⟩
                  rw [List.getElem?_eq_getElem hlt] at hcj
                  injection hcj with hcj
                  rw [← hcj]; exact hV
            exact this n (Nat.le_refl _)
          obtain ⟨vs, hl, hv⟩ := hex
          refine ⟨.agg vs.toArray, ?_, .agg vs _ (by rw [hl, List.length_take]; omega) fun i v c h1 h2 => ?_⟩
          · have h1 := run_loadCellsA (P := P) (w := w) b o vs (fun j v hj => (hv j v hj).1)
            rw [hl] at h1
            simp [loadVar, run_isAggA ha, run_sizeOfA hs, h1]
          · refine (hv i v h1).2 c ?_
            rw [List.getElem?_take] at h2
            split at h2
            · exact h2
            · cases h2
        · cases hr
      | false =>
        simp only at hr
        have h0 : cs[0]? = some x := by rw [← List.head?_eq_getElem?]; exact hr
        obtain ⟨u, hu, hV⟩ := hc 0 x h0
        refine ⟨u, ?_, hV⟩
        simp only [Nat.add_zero] at hu
        simp [loadVar, run_isAggA ha, hu]

theorem cell_row {w : World} {g : Nat} {cur : Array Value} {t : TypeId} {fr : Nat × Nat} (h : w.heap[g]? = some (.cells cur t fr)) (j : Nat) : w.cell? ⟨g, j, none⟩ = cur[j]? :=
  cell_of_row w g j cur t fr h

/-- The cells of an element of a piece. -/
theorem HR.at_ {bi : Bl} {es : List AV} (h : HR S β w bi es) {k : Nat} {e : AV} (he : es[k]? = some e) (off : Nat) :
    ∀ (j : Nat) c, (e.cells.drop off)[j]? = some c → ∃ u, w.cell? ⟨bi.blk, k * bi.sz + off + j, none⟩ = some u ∧ V S β w u c := by
  obtain ⟨cur, t, h1, h2, h3, h4, h5, h6⟩ := h
  intro j c hc
  rw [List.getElem?_drop] at hc
  obtain ⟨u, hu, hv⟩ := h6 k (off + j) e c he hc
  refine ⟨u, ?_, hv⟩
  rw [cell_row h1, ← hu]
  congr 1
  omega

theorem ok_load {t : TypeId} {x : Operand} {X : AV} (ho : o.op = .load t x) (M : Mem F S β hp w) (hx : V S β w (a.eval x) X) (hr : (loadA P t X sc).run (look hp) = some (res, rd)) (hc : ∀ c, c ∈ res.cs → c.p) :
    OpOK P F S β hp w a o res := by
  have fin : ∀ {b off : Nat} {cs : List AV} {y : AV}, a.eval x = .pointer (some ⟨b, off, none⟩) → readA P t cs = some y → (∀ (j : Nat) c, cs[j]? = some c → ∃ u, w.cell? ⟨b, off + j, none⟩ = some u ∧ V S β w u c) →
      res.v = y → res.upd = [] → OpOK P F S β hp w a o res := by
    intro b off cs y hp' hy hcells hv hu
    obtain ⟨v, h1, h2⟩ := read_sound (P := P) hy b off hcells
    refine ok_same M (v := v) ?_ hu (by rw [hv]; exact h2)
    simp [execOp, ho, hp', Instr.loadAt, Instr.sureAddr, h1]
  cases X with
  | tptr cs =>
    simp only [loadA] at hr
    cases hq : readA P t cs with
    | none => rw [hq] at hr; cases hr
    | some y =>
      rw [hq] at hr
      obtain ⟨h1, h2, _, _⟩ := val_run hr
      generalize hv : a.eval x = v0 at hx
      cases hx with
      | tptr b o' _ U hS hcc hvv => exact fin hv hq (fun j c hj => ⟨U j, hcc j c hj, (hvv j c hj).up⟩) h1 h2
  | elt id k off =>
    simp only [loadA] at hr
    generalize hv : a.eval x = v0 at hx
    cases hx with
    | elt _ _ _ bi hb =>
      simp only [Rd.run] at hr
      cases hl : look hp id with
      | none => rw [hl] at hr; cases hr
      | some ob =>
        have hob := M.obs id ob hl
        rw [hl] at hr
        cases ob with
        | var cs =>
          simp only at hr
          by_cases hk : k = 0
          · rw [if_pos hk] at hr
            cases hq : readA P t (cs.drop off) with
            | none => rw [hq] at hr; cases hr
            | some y =>
              rw [hq] at hr
              simp only [val, Rd.run] at hr
              injection hr with hr; injection hr with hr _; subst hr
              obtain ⟨bj, e1, e2, e3⟩ := hob
              rw [hb] at e1; injection e1 with e1; subst e1
              have := e3.at_ (k := 0) (e := .agg cs) rfl off
              subst hk
              simp only [Nat.zero_mul, Nat.zero_add] at hv this
              exact fin hv hq this rfl rfl
          · rw [if_neg hk] at hr; cases hr
        | row sz es =>
          simp only at hr
          cases sc with
          | nil => cases hr
          | cons dd sc'' =>
            cases dd with
            | elt e =>
              simp only at hr
              cases hq : readA P t (e.cells.drop off) with
              | none => rw [hq] at hr; cases hr
              | some y =>
                rw [hq] at hr
                simp only [valIf, Rd.run] at hr
                injection hr with hr; injection hr with hr _; subst hr
                obtain ⟨bj, e1, e2, e3⟩ := hob
                rw [hb] at e1; injection e1 with e1; subst e1
                have hek : es[k]? = some e := hc _ (List.mem_singleton.2 rfl)
                exact fin hv hq (e3.at_ hek off) rfl rfl
            | _ => cases hr
        | map ks vs => cases hr
        | dead => cases hr
  | _ => cases hr

end

end Go.Ped
