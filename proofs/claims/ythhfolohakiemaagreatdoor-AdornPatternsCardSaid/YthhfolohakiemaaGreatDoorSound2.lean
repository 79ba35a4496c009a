/-
  The engine, part 5: each operation of the machine does what 'evalOp' says: those that only compute.
-/
import Derived.Test.YthhfolohakiemaaGreatDoorSound
set_option linter.unusedVariables false
namespace Go.Ped
open Go.RowKit

section
variable {P : Program} {F : Fr} {S : Blk} {β : Beta} {hp : List (Nat × Ob)} {w : World} {a : Act} {o : Oper} {res : Res} {rd : List Nat} {sc : List Dir}

theorem ok_move {x : Operand} {X : AV} (ho : o.op = .move x ∨ o.op = .assign x) (M : Mem F S β hp w) (hx : V S β w (a.eval x) X) (hr : (val X sc).run (look hp) = some (res, rd)) : OpOK P F S β hp w a o res := by
  obtain ⟨h1, h2, _, _⟩ := val_run hr
  refine ok_same M (v := a.eval x) ?_ h2 (by rw [h1]; exact hx)
  rcases ho with ho | ho <;> simp [execOp, ho]

theorem ok_pick {c x y : Operand} {b : Bool} {X Y : AV} (ho : o.op = .pick c x y) (M : Mem F S β hp w) (hc : V S β w (a.eval c) (.bool b)) (hx : V S β w (a.eval x) X) (hy : V S β w (a.eval y) Y)
    (hr : (val (pickA b X Y) sc).run (look hp) = some (res, rd)) : OpOK P F S β hp w a o res := by
  obtain ⟨h1, h2, _, _⟩ := val_run hr
  generalize hv : a.eval c = v at hc
  cases hc with
  | bool b =>
    refine ok_same M (v := if b then a.eval x else a.eval y) ?_ h2 ?_
    · simp [execOp, ho, hv, asBool]
    · rw [h1]
      cases b
      · rw [show pickA false X Y = Y by unfold pickA; split <;> rfl]; exact hy
      · rw [show pickA true X Y = X by unfold pickA; split <;> rfl]; exact hx

theorem run_fieldPlace {f : Field} {n : Nat} (h : sizeA P f.type = some (n + 1)) (b off : Nat) : (fieldPlace ⟨b, off, none⟩ f).run P w = .ok ⟨b, off + f.offset, none⟩ w := by
  simp [fieldPlace, run_sizeOfA h, Addr.add_lit]

theorem ok_fieldAddr {s : TypeId} {x : Operand} {f : Nat} {X : AV} (ho : o.op = .fieldAddr s x f) (M : Mem F S β hp w) (hx : V S β w (a.eval x) X) (hr : (fieldAddrA P s f X sc).run (look hp) = some (res, rd)) :
    OpOK P F S β hp w a o res := by
  unfold fieldAddrA at hr
  cases hoff : offsetA P s f with
  | none => rw [hoff] at hr; cases hr
  | some off =>
    rw [hoff] at hr
    have hplace : ∀ b q, (Instr.fieldAt s (.pointer (some ⟨b, q, none⟩)) f).run P w = .ok (.pointer (some ⟨b, q + off, none⟩)) w := by
      intro b q
      unfold offsetA at hoff
      cases hu : P.underlying s with
      | none => rw [hu] at hoff; cases hoff
      | some d =>
        rw [hu] at hoff
        cases d <;> first
          | (cases hoff; done)
          | skip
        rename_i fields
        simp only at hoff
        cases hf : fields[f]? with
        | none => rw [hf] at hoff; cases hoff
        | some g =>
          rw [hf] at hoff
          simp only at hoff
          cases hs : sizeA P g.type with
          | none => rw [hs] at hoff; cases hoff
          | some m =>
            rw [hs] at hoff
            cases m with
            | zero => cases hoff
            | succ m =>
              injection hoff with hoff
              subst hoff
              simp [Instr.fieldAt, run_underlying hu, hf, Instr.sureAddr, run_fieldPlace hs]
    cases X with
    | elt id k q =>
      obtain ⟨h1, h2, _, _⟩ := val_run hr
      generalize hv : a.eval x = v at hx
      cases hx with
      | elt _ _ _ bi hb =>
        refine ok_same M (v := .pointer (some ⟨bi.blk, k * bi.sz + q + off, none⟩)) ?_ h2 ?_
        · simp [execOp, ho, hv, hplace]
        · rw [h1, Nat.add_assoc]; exact .elt id k (q + off) bi hb
    | tptr cs =>
      obtain ⟨h1, h2, _, _⟩ := val_run hr
      generalize hv : a.eval x = v at hx
      cases hx with
      | tptr b q _ U hS hcc hvv =>
        refine ok_same M (v := .pointer (some ⟨b, q + off, none⟩)) ?_ h2 ?_
        · simp [execOp, ho, hv, hplace]
        · rw [h1]
          refine .tptr b (q + off) _ (fun j => U (off + j)) hS (fun j c hj => ?_) (fun j c hj => ?_)
          · rw [List.getElem?_drop] at hj
            have := hcc _ _ hj
            rwa [show q + off + j = q + (off + j) by omega]
          · rw [List.getElem?_drop] at hj
            exact hvv _ _ hj
    | _ => cases hr

theorem run_sizeP {t : TypeId} {n : Nat} (h : sizeA P t = some n) : ∃ i, P.info? t = some i ∧ i.size = n := by
  unfold sizeA at h
  exact Option.map_eq_some_iff.1 h

theorem ok_indexAddr {t : TypeId} {x i : Operand} {X : AV} {k : IntKind} {n : Int} (ho : o.op = .indexAddr t x i) (M : Mem F S β hp w) (hx : V S β w (a.eval x) X) (hi : V S β w (a.eval i) (.int k n))
    (hr : (indexAddrA P t X n sc).run (look hp) = some (res, rd)) (hc : ∀ c, c ∈ res.cs → c.p) : OpOK P F S β hp w a o res := by
  unfold indexAddrA at hr
  generalize hvi : a.eval i = vi at hi
  cases hi
  cases he : elemA P t with
  | none => rw [he] at hr; cases hr
  | some es0 =>
    obtain ⟨e, size⟩ := es0
    rw [he] at hr
    simp only at hr
    have hel : P.underlying t = some (.slice e) ∧ sizeA P e = some size := by
      unfold elemA at he
      cases hu : P.underlying t with
      | none => rw [hu] at he; cases he
      | some d =>
        rw [hu] at he
        cases d <;> first
          | (cases he; done)
          | skip
        rename_i e'
        simp only at he
        obtain ⟨m, hm, hq⟩ := Option.map_eq_some_iff.1 he
        injection hq with q1 q2
        subst q1; subst q2
        exact ⟨rfl, hm⟩
    obtain ⟨hu, hs⟩ := hel
    have hplace : ∀ (b q len cap : Nat), 0 ≤ n ∧ n < len → (Instr.indexAt t (.slice (some ⟨b, q, none⟩) len cap) (.int k n)).run P w = .ok (.pointer (some ⟨b, q + n.toNat * size, none⟩)) w := by
      intro b q len cap h
      simp [Instr.indexAt, asIntOf, run_underlying hu, run_sizeOfA hs, Addr.add_lit, h]
    cases X with
    | seq es clip =>
      cases sc with
      | nil => cases hr
      | cons dd sc' =>
        cases dd with
        | elt e1 =>
          simp only at hr
          by_cases hsz1 : e1.cells.length = size
          · rw [if_pos hsz1] at hr
            obtain ⟨h1, h2, _, h4⟩ := valIf_run hr
            obtain ⟨hn, hget⟩ := hc _ (by rw [h4]; exact List.mem_singleton.2 rfl)
            generalize hv : a.eval x = v at hx
            cases hx with
            | seq p cap sz b q _ _ U hcap hmax hclip hp' hsz hcc hvv =>
              have hne : es ≠ [] := by rintro rfl; simp at hget
              obtain ⟨rfl, hS⟩ := hp' hne
              have hlt : n.toNat < es.length := (List.getElem?_eq_some_iff.1 hget).1
              have hsz2 : sz = size := by rw [← hsz _ _ hget]; exact hsz1
              subst hsz2
              refine ok_same M (v := .pointer (some ⟨b, q + n.toNat * sz, none⟩)) ?_ h2 ?_
              · simp [execOp, ho, hv, hvi, hplace b q es.length cap ⟨hn, by omega⟩]
              · rw [h1]
                exact .tptr b _ _ (fun j => U n.toNat j) hS (fun j c hj => hcc _ _ _ _ hget hj) (fun j c hj => hvv _ _ _ _ hget hj)
          · rw [if_neg hsz1] at hr; cases hr
        | _ => cases hr
    | row id off len =>
      simp only [Rd.run] at hr
      cases hl : look hp id with
      | none => rw [hl] at hr; cases hr
      | some ob =>
        rw [hl] at hr
        have hob := M.obs id ob hl
        cases ob with
        | row sz es =>
          simp only at hr
          by_cases hsz : sz = size
          · rw [if_pos hsz] at hr
            simp only [valIf, Rd.run] at hr
            injection hr with hr; injection hr with hr _; subst hr
            obtain ⟨hn, hlt⟩ := hc _ (List.mem_singleton.2 rfl)
            generalize hv : a.eval x = v at hx
            cases hx with
            | row _ _ _ ad bi hb hle ha =>
              obtain ⟨bj, e1, e2, e3⟩ := hob
              rw [hb] at e1; injection e1 with e1; subst e1
              have had := ha (by omega)
              subst had
              refine ok_same M (v := .pointer (some ⟨bi.blk, off * bi.sz + n.toNat * size, none⟩)) ?_ rfl ?_
              · simp [execOp, ho, hv, hvi, hplace _ _ len _ ⟨hn, hlt⟩]
              · rw [← hsz, ← e2, ← Nat.add_mul]
                exact .elt id (off + n.toNat) 0 bi hb
          · rw [if_neg hsz] at hr; cases hr
        | _ => cases hr
    | _ => cases hr

theorem ok_index {t : TypeId} {x i : Operand} {X : AV} {k : IntKind} {n : Int} (ho : o.op = .index t x i) (M : Mem F S β hp w) (hx : V S β w (a.eval x) X) (hi : V S β w (a.eval i) (.int k n))
    (hr : (indexA P t X n sc).run (look hp) = some (res, rd)) (hc : ∀ c, c ∈ res.cs → c.p) : OpOK P F S β hp w a o res := by
  unfold indexA at hr
  generalize hvi : a.eval i = vi at hi
  cases hi
  split at hr
  · rename_i s hu
    split at hr
    · rename_i m sc'
      obtain ⟨h1, h2, _, h4⟩ := valIf_run hr
      obtain ⟨hn, b, hb, hm⟩ := hc _ (by rw [h4]; exact List.mem_singleton.2 rfl)
      generalize hv : a.eval x = v at hx
      cases hx with
      | str s =>
        have hlt : n.toNat < s.data.toList.length := (List.getElem?_eq_some_iff.1 hb).1
        have hlt' : n.toNat < s.size := by simpa using hlt
        have hget : s[n.toNat]? = some b := by
          rw [ByteArray.getElem?_lt' s _ hlt']
          have := (List.getElem?_eq_some_iff.1 hb).2
          rw [← this]; rfl
        refine ok_same M (v := .int .u8 m) ?_ h2 (by rw [h1]; exact .int _ _)
        simp [execOp, ho, hv, hvi, Instr.index, asIntOf, run_underlying hu, hn, hget, hm]
    · cases hr
  · cases hr

theorem beq_text (x y : ByteArray) : (x.toList == y.toList) = decide (x = y) := by
  rw [Bool.eq_iff_iff, beq_iff_eq, decide_eq_true_iff]
  constructor
  · intro h
    rw [ByteArray.toList_eq, ByteArray.toList_eq] at h
    cases x; cases y
    simpa using h
  · intro h; rw [h]

theorem ok_binOp {op : BinOp} {t ty : TypeId} {x y : Operand} {X Y : AV} (ho : o.op = .binOp op t x y ty) (M : Mem F S β hp w) (hx : V S β w (a.eval x) X) (hy : V S β w (a.eval y) Y)
    (hr : (binOpA P op t X Y sc).run (look hp) = some (res, rd)) (hc : ∀ c, c ∈ res.cs → c.p) : OpOK P F S β hp w a o res := by
  unfold binOpA at hr
  split at hr
  · rename_i k p k' q
    by_cases hk : k = k'
    · rw [if_pos hk] at hr
      subst hk
      generalize hvx : a.eval x = vx at hx
      generalize hvy : a.eval y = vy at hy
      cases hx; cases hy
      have arith : ∀ m : Int, (arithA k m sc).run (look hp) = some (res, rd) → (binOp op t (.int k p) (.int k q)).run P w = .ok (.int k (k.wrap m)) w → OpOK P F S β hp w a o res := by
        intro m h1 h2
        obtain ⟨e1, e2, _, e4⟩ := valIf_run h1
        have hw := hc _ (by rw [e4]; exact List.mem_singleton.2 rfl)
        simp only [] at hw
        refine ok_same M (v := .int k m) ?_ e2 (by rw [e1]; exact .int _ _)
        simp [execOp, ho, hvx, hvy, eqGuard_at_int, h2, hw]
      have cmp : ∀ c : Bool, (truth c sc).run (look hp) = some (res, rd) → (binOp op t (.int k p) (.int k q)).run P w = .ok (.bool c) w → OpOK P F S β hp w a o res := by
        intro c h1 h2
        obtain ⟨e1, e2⟩ := truth_run h1 hc
        refine ok_same M (v := .bool c) ?_ e2 (by rw [e1]; exact .bool _)
        simp [execOp, ho, hvx, hvy, eqGuard_at_int, h2]
      cases op <;> first
        | exact arith _ hr (by simp [binOp, Op.intArith])
        | exact cmp _ hr (by simp [binOp, Op.intCmp]; try rfl)
        | (simp only [cmpA] at hr; cases hr)
    · rw [if_neg hk] at hr; cases hr
  · rename_i p q
    generalize hvx : a.eval x = vx at hx
    generalize hvy : a.eval y = vy at hy
    cases hx; cases hy
    have cmp : ∀ c : Bool, (truth c sc).run (look hp) = some (res, rd) → (binOp op t (.string p) (.string q)).run P w = .ok (.bool c) w → OpOK P F S β hp w a o res := by
      intro c h1 h2
      obtain ⟨e1, e2⟩ := truth_run h1 hc
      refine ok_same M (v := .bool c) ?_ e2 (by rw [e1]; exact .bool _)
      simp [execOp, ho, hvx, hvy, eqGuard_at_string, h2]
    cases op <;> first
      | exact cmp _ hr (by simp [binOp, Op.stringOp, beq_text])
      | (cases hr; done)
      | skip
    obtain ⟨e1, e2, _, e4⟩ := valIf_run hr
    have hw := hc _ (by rw [e4]; exact List.mem_singleton.2 rfl)
    simp only [] at hw
    refine ok_same M (v := .string (p ++ q)) ?_ e2 (by rw [e1]; exact .str _)
    have hn : ¬ ((p.size : Int) + (q.size : Int) > 9223372036854775807) := by omega
    simp [execOp, ho, hvx, hvy, eqGuard_at_string, binOp, Op.stringOp, hn]
  · rename_i p q
    generalize hvx : a.eval x = vx at hx
    generalize hvy : a.eval y = vy at hy
    cases hx; cases hy
    split at hr
    · rename_i hu
      have hu' : P.underlying t = some .bool := by
        cases h : P.underlying t with
        | none => rw [h] at hu; simp at hu
        | some d => cases d <;> simp [h] at hu ⊢
      have hbin : ∀ b1 b2, (Op.equal t (.bool b1) (.bool b2)).run P w = .ok (decide (b1 = b2)) w := by
        intro b1 b2
        simp only [Op.equal, Op.maxDepth]
        rw [run_equalIn_bool' w 9999 t b1 b2 hu']
        cases b1 <;> cases b2 <;> rfl
      cases op <;> first
        | (obtain ⟨e1, e2⟩ := truth_run hr hc; refine ok_same M (v := .bool _) ?_ e2 (by rw [e1]; exact .bool _); simp [execOp, ho, hvx, hvy, eqGuard_at_bool, binOp, hbin])
        | (cases hr; done)
    · cases hr
  · cases hr

theorem nilQ_eq {t : TypeId} {d : TypeDesc} (hd : P.underlying t = some d) {v u : Value} {x y : AV} {b : Bool} (hx : V S β w v x) (hy : V S β w u y) (h : nilQ d x y = some b) (k : Nat) :
    (Op.equalIn (k + 1) t v u).run P w = .ok b w := by
  unfold nilQ at h
  split at h <;> first
    | (cases h; done)
    | skip
  all_goals
    injection h with h
    subst h
    cases hx
    cases hy
  all_goals first
    | (simp [Op.equalIn, run_underlying hd]; done)
    | skip
  rename_i hp _ _ _ _
  obtain ⟨rfl, _⟩ := hp (by simp)
  simp [Op.equalIn, run_underlying hd]

theorem nilQ_forms {d : TypeDesc} {v u : Value} {x y : AV} {b : Bool} (hx : V S β w v x) (hy : V S β w u y) (h : nilQ d x y = some b) (t : TypeId) :
    binOp .eql t v u = (do pure (.bool (← Op.equal t v u))) ∧ binOp .neq t v u = (do pure (.bool (!(← Op.equal t v u)))) ∧ ∀ op p q, (eqGuard op t p q v u).run P w = .ok () w := by
  unfold nilQ at h
  split at h <;> first
    | (cases h; done)
    | skip
  all_goals
    cases hx
    cases hy
    exact ⟨rfl, rfl, fun op p q => by cases op <;> simp [eqGuard]⟩

theorem nilQ_sound {t : TypeId} {d : TypeDesc} (hd : P.underlying t = some d) {v u : Value} {x y : AV} {b : Bool} (hx : V S β w v x) (hy : V S β w u y) (h : nilQ d x y = some b) :
    (binOp .eql t v u).run P w = .ok (.bool b) w ∧ (binOp .neq t v u).run P w = .ok (.bool (!b)) w ∧ ∀ op p q, (eqGuard op t p q v u).run P w = .ok () w := by
  obtain ⟨h2, h3, h4⟩ := nilQ_forms (P := P) hx hy h t
  have h1 : (Op.equal t v u).run P w = .ok b w := nilQ_eq hd hx hy h 9999
  refine ⟨?_, ?_, h4⟩
  · rw [h2]; simp [h1]
  · rw [h3]; simp [h1]

theorem ok_nil {op : BinOp} {t ty : TypeId} {x y : Operand} {X Y : AV} (ho : o.op = .binOp op t x y ty) (M : Mem F S β hp w) (hx : V S β w (a.eval x) X) (hy : V S β w (a.eval y) Y)
    (hr : (nilA P op t X Y sc).run (look hp) = some (res, rd)) (hc : ∀ c, c ∈ res.cs → c.p) : OpOK P F S β hp w a o res := by
  unfold nilA at hr
  cases hu : P.underlying t with
  | none => rw [hu] at hr; cases hr
  | some d =>
    rw [hu] at hr
    simp only at hr
    cases hq : nilQ d X Y with
    | none => rw [hq] at hr; cases hr
    | some b =>
      rw [hq] at hr
      obtain ⟨h1, h2, h3⟩ := nilQ_sound hu hx hy hq
      cases op <;> first
        | (simp only at hr; cases hr; done)
        | skip
      · obtain ⟨e1, e2⟩ := truth_run hr hc
        refine ok_same M (v := .bool b) ?_ e2 (by rw [e1]; exact .bool _)
        simp [execOp, ho, h3, h1]
      · obtain ⟨e1, e2⟩ := truth_run hr hc
        refine ok_same M (v := .bool (!b)) ?_ e2 (by rw [e1]; exact .bool _)
        simp [execOp, ho, h3, h2]

theorem ok_unOp {x : Operand} {t : TypeId} {b : Bool} (ho : o.op = .unOp .not t x) (M : Mem F S β hp w) (hx : V S β w (a.eval x) (.bool b)) (hr : (val (.bool (!b)) sc).run (look hp) = some (res, rd)) :
    OpOK P F S β hp w a o res := by
  obtain ⟨h1, h2, _, _⟩ := val_run hr
  generalize hv : a.eval x = v at hx
  cases hx
  refine ok_same M (v := .bool (!b)) ?_ h2 (by rw [h1]; exact .bool _)
  simp [execOp, ho, hv, Op.unary]

theorem ok_makeInterface {x : Operand} {t : TypeId} {X : AV} {d : TypeDesc} (ho : o.op = .makeInterface t x) (M : Mem F S β hp w) (hx : V S β w (a.eval x) X) (hu : P.underlying t = some d) (hd : ∀ ms, d ≠ .interface ms)
    (hr : (val (.iface t X) sc).run (look hp) = some (res, rd)) : OpOK P F S β hp w a o res := by
  obtain ⟨h1, h2, _, _⟩ := val_run hr
  refine ok_same M (v := .iface t (a.eval x)) ?_ h2 (by rw [h1]; exact .iface _ _ _ hx)
  have : (Instr.makeInterface t (a.eval x)).run P w = .ok (.iface t (a.eval x)) w := by
    cases d <;> first
      | exact absurd rfl (hd _)
      | simp [Instr.makeInterface, run_underlying hu]
  simp [execOp, ho, this]

theorem ok_extract {x : Operand} {i : Nat} {xs : List AV} {X : AV} (ho : o.op = .extract x i) (M : Mem F S β hp w) (hx : V S β w (a.eval x) (.tup xs)) (hX : xs[i]? = some X) (hr : (val X sc).run (look hp) = some (res, rd)) :
    OpOK P F S β hp w a o res := by
  obtain ⟨h1, h2, _, _⟩ := val_run hr
  generalize hv : a.eval x = v at hx
  cases hx with
  | tup vs _ hl h =>
    have hlt : i < xs.length := (List.getElem?_eq_some_iff.1 hX).1
    have hvi : vs[i]? = some (vs[i]'(by omega)) := List.getElem?_eq_getElem (by omega)
    refine ok_same M (v := vs[i]'(by omega)) ?_ h2 (by rw [h1]; exact h i _ X hvi hX)
    simp [execOp, ho, hv, Instr.extract, hvi]

theorem ok_nilCheck {x : Operand} {X : AV} (hX : (∃ i k q, X = .elt i k q) ∨ ∃ cs, X = .tptr cs) (ho : o.op = .nilCheck x) (M : Mem F S β hp w) (hx : V S β w (a.eval x) X) (hr : (val X sc).run (look hp) = some (res, rd)) :
    OpOK P F S β hp w a o res := by
  obtain ⟨h1, h2, _, _⟩ := val_run hr
  have hp' : ∃ ad, a.eval x = .pointer (some ad) := by
    generalize a.eval x = v at hx
    rcases hX with ⟨i, k, q, rfl⟩ | ⟨cs, rfl⟩
    · cases hx; exact ⟨_, rfl⟩
    · cases hx; exact ⟨_, rfl⟩
  obtain ⟨ad, hv⟩ := hp'
  refine ok_same M (v := a.eval x) ?_ h2 (by rw [h1]; exact hx)
  simp [execOp, ho, hv]

end

end Go.Ped
