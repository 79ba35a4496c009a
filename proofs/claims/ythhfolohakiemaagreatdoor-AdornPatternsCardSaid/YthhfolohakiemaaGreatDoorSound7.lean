/-
  The engine, part 10: slices of slices and of texts; structs that are built.
-/
import Derived.Test.YthhfolohakiemaaGreatDoorSound6
set_option linter.unusedVariables false
namespace Go.Ped
open Go.RowKit

section
variable {P : Program} {F : Fr} {S : Blk} {β : Beta} {hp : List (Nat × Ob)} {w : World} {a : Act} {o : Oper} {res : Res} {rd : List Nat} {sc : List Dir}

theorem elem_of {t e : TypeId} {n : Nat} (h : elemA P t = some (e, n)) : P.underlying t = some (.slice e) ∧ sizeA P e = some n := by
  unfold elemA at h
  cases hu : P.underlying t with
  | none => rw [hu] at h; cases h
  | some d =>
    rw [hu] at h
    cases d <;> first
      | (cases h; done)
      | skip
    simp only at h
    obtain ⟨m, hm, hq⟩ := Option.map_eq_some_iff.1 h
    injection hq with q1 q2
    subst q1; subst q2
    exact ⟨rfl, hm⟩

/-- How the machine slices a slice. -/
theorem run_sliceX {t e : TypeId} {size : Nat} (hu : P.underlying t = some (.slice e)) (hs : sizeA P e = some size) (p : Option Addr) (len cap : Nat) (lo hi mx : Option Value) (l h m : Nat)
    (hb : (Instr.sliceBounds true len cap lo hi mx).run P w = .ok (l, h, m) w) :
    (Instr.sliceAt t (.slice p len cap) lo hi mx).run P w = .ok (.slice (if m = l then p else p.map (·.add (l * size))) (h - l) (m - l)) w := by
  simp [Instr.sliceAt, run_underlying hu, Instr.slice, hb, run_sizeOfA hs]

theorem bounds_h (len cap : Nat) (k : IntKind) (h : Int) (h0 : 0 ≤ h) (h1 : h ≤ cap) : (Instr.sliceBounds true len cap none (some (.int k h)) none).run P w = .ok (0, h.toNat, cap) w := by
  simp [Instr.sliceBounds, Instr.sliceBound, asIntOf, h0, h1]
theorem bounds_l (len cap : Nat) (k : IntKind) (l : Int) (h0 : 0 ≤ l) (h1 : l ≤ len) : (Instr.sliceBounds true len cap (some (.int k l)) none none).run P w = .ok (l.toNat, len, cap) w := by
  simp [Instr.sliceBounds, Instr.sliceBound, asIntOf, h0, h1]
theorem bounds_00 (len cap : Nat) (k k' : IntKind) : (Instr.sliceBounds true len cap none (some (.int k 0)) (some (.int k' 0))).run P w = .ok (0, 0, 0) w := by
  simp [Instr.sliceBounds, Instr.sliceBound, asIntOf]

theorem bounds_lh (len cap : Nat) (k k' : IntKind) (l h : Int) (h0 : 0 ≤ l) (h1 : l ≤ h) (h2 : h ≤ cap) : (Instr.sliceBounds true len cap (some (.int k l)) (some (.int k' h)) none).run P w = .ok (l.toNat, h.toNat, cap) w := by
  have h3 : 0 ≤ h := by omega
  have h4 : l ≤ (h.toNat : Int) := by omega
  simp only [Instr.sliceBounds, Instr.sliceBound, asIntOf]
  simp [h0, h2, h3, h4, -Int.ofNat_toNat]
theorem bounds_lhm (len cap : Nat) (k k' k'' : IntKind) (l h m : Int) (h0 : 0 ≤ l) (h1 : l ≤ h) (h2 : h ≤ m) (h3 : m ≤ cap) : (Instr.sliceBounds true len cap (some (.int k l)) (some (.int k' h)) (some (.int k'' m))).run P w = .ok (l.toNat, h.toNat, m.toNat) w := by
  have h4 : 0 ≤ h := by omega
  have h5 : l ≤ (h.toNat : Int) := by omega
  have h6 : 0 ≤ m := by omega
  have h7 : h ≤ (m.toNat : Int) := by omega
  simp only [Instr.sliceBounds, Instr.sliceBound, asIntOf]
  simp [h0, h3, h4, h5, h6, h7, -Int.ofNat_toNat]

theorem ok_slice {t : TypeId} {x : Operand} {lo hi mx : Option Operand} {X : AV} {L H Mx : Option AV} (ho : o.op = .slice t x lo hi mx) (M : Mem F S β hp w) (hx : V S β w (a.eval x) X)
    (hL : (lo = none ∧ L = none) ∨ ∃ q y, lo = some q ∧ L = some y ∧ V S β w (a.eval q) y) (hH : (hi = none ∧ H = none) ∨ ∃ q y, hi = some q ∧ H = some y ∧ V S β w (a.eval q) y)
    (hM : (mx = none ∧ Mx = none) ∨ ∃ q y, mx = some q ∧ Mx = some y ∧ V S β w (a.eval q) y)
    (hr : (sliceA P t X L H Mx sc).run (look hp) = some (res, rd)) (hc : ∀ c, c ∈ res.cs → c.p) : OpOK P F S β hp w a o res := by
  unfold sliceA at hr
  cases he : elemA P t with
  | none => rw [he] at hr; cases hr
  | some es0 =>
    obtain ⟨e, size⟩ := es0
    rw [he] at hr
    simp only at hr
    obtain ⟨hu, hs⟩ := elem_of he
    have none_of : ∀ {q : Option Operand}, ((q = none ∧ (none : Option AV) = none) ∨ ∃ q' y, q = some q' ∧ (none : Option AV) = some y ∧ V S β w (a.eval q') y) → q.map a.eval = none := by
      rintro q (⟨rfl, _⟩ | ⟨_, _, _, h, _⟩)
      · rfl
      · cases h
    have some_of : ∀ {q : Option Operand} {k : IntKind} {n : Int}, ((q = none ∧ some (AV.int k n) = none) ∨ ∃ q' y, q = some q' ∧ some (AV.int k n) = some y ∧ V S β w (a.eval q') y) → q.map a.eval = some (.int k n) := by
      rintro q k n (⟨_, h⟩ | ⟨q', y, rfl, h, hv⟩)
      · cases h
      · injection h with h
        subst h
        generalize hq : a.eval q' = v at hv
        cases hv
        simp [hq]
    have exec : ∀ {v : Value}, (Instr.sliceAt t (a.eval x) (lo.map a.eval) (hi.map a.eval) (mx.map a.eval)).run P w = .ok v w → (execOp a.eval o).run P w = .ok (.value v) w := by
      intro v h
      simp [execOp, ho, h]
    generalize hv : a.eval x = v at hx exec
    split at hr
    · rename_i id off len k h
      simp only [Rd.run] at hr
      cases hl : look hp id with
      | none => rw [hl] at hr; cases hr
      | some ob =>
        rw [hl] at hr
        have hob := M.obs id ob hl
        cases ob with
        | row sz es =>
          simp only [valIf, Rd.run] at hr
          injection hr with hr; injection hr with hr _; subst hr
          obtain ⟨h0, h1⟩ := hc _ (List.mem_singleton.2 rfl)
          obtain ⟨bj, q1, q2, cur, ty, r1, r2, r3, r4, r5, r6⟩ := hob
          cases hx with
          | row _ _ _ ad bi hb hle ha =>
            rw [hb] at q1; injection q1 with q1; subst q1
            refine ok_same M (v := .slice (some ad) h.toNat (bi.cap - off)) (exec ?_) rfl (.row id off h.toNat ad bi hb (by omega) ha)
            rw [none_of hL, some_of hH, none_of hM, run_sliceX hu hs _ _ _ _ _ _ _ _ _ (bounds_h len _ k h h0 (by omega))]
            simp [Addr.add_zero']
        | _ => cases hr
    · rename_i id off len k l
      simp only [Rd.run] at hr
      cases hl : look hp id with
      | none => rw [hl] at hr; cases hr
      | some ob =>
        rw [hl] at hr
        have hob := M.obs id ob hl
        cases ob with
        | row sz es =>
          simp only at hr
          by_cases hsz : sz = size
          · rw [if_pos hsz] at hr
            simp only [valIf, Rd.run] at hr
            injection hr with hr; injection hr with hr _; subst hr
            obtain ⟨h0, h1⟩ := hc _ (List.mem_singleton.2 rfl)
            obtain ⟨bj, q1, q2, cur, ty, r1, r2, r3, r4, r5, r6⟩ := hob
            cases hx with
            | row _ _ _ ad bi hb hle ha =>
              rw [hb] at q1; injection q1 with q1; subst q1
              have hval : (Instr.sliceAt t (.slice (some ad) len (bi.cap - off)) (lo.map a.eval) (hi.map a.eval) (mx.map a.eval)).run P w = .ok (.slice (some (if bi.cap - off = l.toNat then ad else ad.add (l.toNat * size))) (len - l.toNat) (bi.cap - (off + l.toNat))) w := by
                rw [some_of hL, none_of hH, none_of hM, run_sliceX hu hs _ _ _ _ _ _ _ _ _ (bounds_l len _ k l h0 h1), Nat.sub_sub]
                split <;> simp
              refine ok_same M (exec hval) rfl (.row id (off + l.toNat) (len - l.toNat) _ bi hb (by omega) (fun h => ?_))
              rw [if_neg (by omega), ha (by omega), Addr.add_lit, ← hsz, ← q2, ← Nat.add_mul]
          · rw [if_neg hsz] at hr; cases hr
        | _ => cases hr
    · rename_i es clip k l
      obtain ⟨e1, e2, _, e4⟩ := valIf_run hr
      obtain ⟨h0, h1, h2⟩ := hc _ (by rw [e4]; exact List.mem_singleton.2 rfl)
      cases hx with
      | seq p cap sz b q _ _ U hcap hmax hclip hp' hsz hcc hvv =>
        have hval : (Instr.sliceAt t (.slice p es.length cap) (lo.map a.eval) (hi.map a.eval) (mx.map a.eval)).run P w = .ok (.slice (if cap = l.toNat then p else p.map (·.add (l.toNat * size))) (es.drop l.toNat).length (cap - l.toNat)) w := by
          rw [some_of hL, none_of hH, none_of hM, run_sliceX hu hs _ _ _ _ _ _ _ _ _ (bounds_l es.length _ k l h0 h1), List.length_drop]
        refine ok_same M (exec hval) e2 ?_
        rw [e1]
        refine .seq _ (cap - l.toNat) size b (q + l.toNat * size) (es.drop l.toNat) false (fun i j => U (l.toNat + i) j) (by rw [List.length_drop]; omega) (by omega) (fun h => by cases h) (fun hne => ?_) (fun i e he => ?_) (fun i j e c he hc => ?_) (fun i j e c he hc => ?_)
        · have hlt : l.toNat < es.length := by
            apply Nat.lt_of_not_le
            intro h
            exact hne (List.drop_of_length_le h)
          have hne' : es ≠ [] := by rintro rfl; simp at hlt
          obtain ⟨rfl, hS⟩ := hp' hne'
          rw [if_neg (by omega)]
          refine ⟨?_, hS⟩
          simp [Addr.add_lit]
        · rw [List.getElem?_drop] at he
          exact h2 _ (List.mem_of_getElem? he)
        · rw [List.getElem?_drop] at he
          have hs2 : sz = size := by rw [← hsz _ _ he]; exact h2 _ (List.mem_of_getElem? he)
          have := hcc _ _ _ _ he hc
          rw [hs2, Nat.add_mul] at this
          rw [Nat.add_assoc q]
          exact this
        · rw [List.getElem?_drop] at he
          exact hvv _ _ _ _ he hc
    · rename_i es clip k h
      obtain ⟨e1, e2, _, e4⟩ := valIf_run hr
      obtain ⟨h0, h1⟩ := hc _ (by rw [e4]; exact List.mem_singleton.2 rfl)
      cases hx with
      | seq p cap sz b q _ _ U hcap hmax hclip hp' hsz hcc hvv =>
        have hval : (Instr.sliceAt t (.slice p es.length cap) (lo.map a.eval) (hi.map a.eval) (mx.map a.eval)).run P w = .ok (.slice p (es.take h.toNat).length cap) w := by
          rw [none_of hL, some_of hH, none_of hM, run_sliceX hu hs _ _ _ _ _ _ _ _ _ (bounds_h es.length _ k h h0 (by omega)), List.length_take, Nat.min_eq_left (by omega)]
          cases p <;> simp [Addr.add_zero']
        refine ok_same M (exec hval) e2 ?_
        rw [e1]
        have tk : ∀ {i : Nat} {e : AV}, (es.take h.toNat)[i]? = some e → es[i]? = some e := by
          intro i e he
          rw [List.getElem?_take] at he
          split at he
          · exact he
          · cases he
        refine .seq p cap sz b q (es.take h.toNat) false U (by rw [List.length_take]; omega) hmax (fun h => by cases h) (fun hne => hp' (by rintro rfl; simp at hne)) (fun i e he => hsz i e (tk he)) (fun i j e c he hc => hcc i j e c (tk he) hc) (fun i j e c he hc => hvv i j e c (tk he) hc)
    · rename_i es clip k k'
      obtain ⟨e1, e2, _, _⟩ := val_run hr
      cases hx with
      | seq p cap sz b q _ _ U hcap hmax hclip hp' hsz hcc hvv =>
        refine ok_same M (v := .slice p 0 0) (exec ?_) e2 ?_
        · rw [none_of hL, some_of hH, some_of hM, run_sliceX hu hs _ _ _ _ _ _ _ _ _ (bounds_00 _ _ k k')]
          simp
        · rw [e1]
          exact .seq p 0 0 0 0 [] true (fun _ _ => undef) (by simp) (by simp [maxLen]) (fun _ => rfl) (fun h => absurd rfl h) (by simp) (by simp) (by simp)
    · rename_i id off len k k'
      obtain ⟨e1, e2, _, _⟩ := val_run hr
      cases hx with
      | row _ _ _ ad bi hb hle ha =>
        refine ok_same M (v := .slice (some ad) 0 0) (exec ?_) e2 ?_
        · rw [none_of hL, some_of hH, some_of hM, run_sliceX hu hs _ _ _ _ _ _ _ _ _ (bounds_00 _ _ k k')]
          simp
        · rw [e1]
          exact .seq (some ad) 0 0 0 0 [] true (fun _ _ => undef) (by simp) (by simp [maxLen]) (fun _ => rfl) (fun h => absurd rfl h) (by simp) (by simp) (by simp)
    · rename_i id off len k l k' h
      simp only [Rd.run] at hr
      cases hl : look hp id with
      | none => rw [hl] at hr; cases hr
      | some ob =>
        rw [hl] at hr
        have hob := M.obs id ob hl
        cases ob with
        | row sz es =>
          simp only at hr
          by_cases hsz : sz = size
          · rw [if_pos hsz] at hr
            simp only [valIf, Rd.run] at hr
            injection hr with hr; injection hr with hr _; subst hr
            obtain ⟨h0, h1, h2⟩ := hc _ (List.mem_singleton.2 rfl)
            obtain ⟨bj, q1, q2, cur, ty, r1, r2, r3, r4, r5, r6⟩ := hob
            cases hx with
            | row _ _ _ ad bi hb hle ha =>
              rw [hb] at q1; injection q1 with q1; subst q1
              have hval : (Instr.sliceAt t (.slice (some ad) len (bi.cap - off)) (lo.map a.eval) (hi.map a.eval) (mx.map a.eval)).run P w = .ok (.slice (some (if bi.cap - off = l.toNat then ad else ad.add (l.toNat * size))) (h.toNat - l.toNat) (bi.cap - (off + l.toNat))) w := by
                rw [some_of hL, some_of hH, none_of hM, run_sliceX hu hs _ _ _ _ _ _ _ _ _ (bounds_lh len _ k k' l h h0 h1 (by omega)), Nat.sub_sub]
                split <;> simp
              refine ok_same M (exec hval) rfl (.row id (off + l.toNat) (h.toNat - l.toNat) _ bi hb (by omega) (fun h => ?_))
              rw [if_neg (by omega), ha (by omega), Addr.add_lit, ← hsz, ← q2, ← Nat.add_mul]
          · rw [if_neg hsz] at hr; cases hr
        | _ => cases hr
    · rename_i id off len k l k' h k'' m
      simp only [Rd.run] at hr
      cases hl : look hp id with
      | none => rw [hl] at hr; cases hr
      | some ob =>
        rw [hl] at hr
        have hob := M.obs id ob hl
        cases ob with
        | row sz es =>
          simp only [valIf, Rd.run] at hr
          injection hr with hr; injection hr with hr _; subst hr
          obtain ⟨h0, h1, h2, h3⟩ := hc _ (List.mem_singleton.2 rfl)
          obtain ⟨bj, q1, q2, cur, ty, r1, r2, r3, r4, r5, r6⟩ := hob
          cases hx with
          | row _ _ _ ad bi hb hle ha =>
            rw [hb] at q1; injection q1 with q1; subst q1
            have hval : (Instr.sliceAt t (.slice (some ad) len (bi.cap - off)) (lo.map a.eval) (hi.map a.eval) (mx.map a.eval)).run P w = .ok (.slice (if m.toNat = l.toNat then some ad else (some ad).map (·.add (l.toNat * size))) (h.toNat - l.toNat) (m.toNat - l.toNat)) w := by
              rw [some_of hL, some_of hH, some_of hM, run_sliceX hu hs _ _ _ _ _ _ _ _ _ (bounds_lhm len _ k k' k'' l h m h0 h1 h2 (by omega))]
            exact ok_same M (exec hval) rfl (.dead _)
        | _ => cases hr
    · rename_i es clip k l k' h
      obtain ⟨e1, e2, _, e4⟩ := valIf_run hr
      obtain ⟨h0, h1, h2, h3⟩ := hc _ (by rw [e4]; exact List.mem_singleton.2 rfl)
      cases hx with
      | seq p cap sz b q _ _ U hcap hmax hclip hp' hsz hcc hvv =>
        have hlen : ((es.take h.toNat).drop l.toNat).length = h.toNat - l.toNat := by rw [List.length_drop, List.length_take]; omega
        have hval : (Instr.sliceAt t (.slice p es.length cap) (lo.map a.eval) (hi.map a.eval) (mx.map a.eval)).run P w = .ok (.slice (if cap = l.toNat then p else p.map (·.add (l.toNat * size))) ((es.take h.toNat).drop l.toNat).length (cap - l.toNat)) w := by
          rw [some_of hL, some_of hH, none_of hM, run_sliceX hu hs _ _ _ _ _ _ _ _ _ (bounds_lh es.length _ k k' l h h0 h1 (by omega)), hlen]
        have get : ∀ {i : Nat} {e : AV}, ((es.take h.toNat).drop l.toNat)[i]? = some e → es[l.toNat + i]? = some e := by
          intro i e he
          rw [List.getElem?_drop, List.getElem?_take] at he
          split at he
          · exact he
          · cases he
        refine ok_same M (exec hval) e2 ?_
        rw [e1]
        refine .seq _ (cap - l.toNat) size b (q + l.toNat * size) ((es.take h.toNat).drop l.toNat) false (fun i j => U (l.toNat + i) j) (by rw [hlen]; omega) (by omega) (fun h => by cases h) (fun hne => ?_) (fun i e he => ?_) (fun i j e c he hc => ?_) (fun i j e c he hc => ?_)
        · have hlt : l.toNat < es.length := by
            apply Nat.lt_of_not_le
            intro h
            apply hne
            apply List.drop_of_length_le
            rw [List.length_take]; omega
          have hne' : es ≠ [] := by rintro rfl; simp at hlt
          obtain ⟨rfl, hS⟩ := hp' hne'
          rw [if_neg (by omega)]
          refine ⟨?_, hS⟩
          simp [Addr.add_lit]
        · exact h3 _ (List.mem_of_getElem? (get he))
        · have he' := get he
          have hs2 : sz = size := by rw [← hsz _ _ he']; exact h3 _ (List.mem_of_getElem? he')
          have := hcc _ _ _ _ he' hc
          rw [hs2, Nat.add_mul] at this
          rw [Nat.add_assoc q]
          exact this
        · exact hvv _ _ _ _ (get he) hc
    · cases hr

theorem ok_cut {t : TypeId} {x : Operand} {lo hi : Option Operand} {s : ByteArray} {L H : Option AV} (ho : o.op = .slice t x lo hi none) (M : Mem F S β hp w) (hx : V S β w (a.eval x) (.str s))
    (hL : (lo = none ∧ L = none) ∨ ∃ q y, lo = some q ∧ L = some y ∧ V S β w (a.eval q) y) (hH : (hi = none ∧ H = none) ∨ ∃ q y, hi = some q ∧ H = some y ∧ V S β w (a.eval q) y)
    (hr : (cutA P t s L H sc).run (look hp) = some (res, rd)) (hc : ∀ c, c ∈ res.cs → c.p) : OpOK P F S β hp w a o res := by
  unfold cutA at hr
  cases hu : P.underlying t with
  | none => rw [hu] at hr; cases hr
  | some d =>
    rw [hu] at hr
    cases d <;> first
      | (cases hr; done)
      | skip
    simp only at hr
    generalize hv : a.eval x = v at hx
    cases hx
    split at hr
    · rename_i k h
      obtain ⟨e1, e2, _, e4⟩ := valIf_run hr
      obtain ⟨h0, h1⟩ := hc _ (by rw [e4]; exact List.mem_singleton.2 rfl)
      rcases hL with ⟨rfl, _⟩ | ⟨_, _, _, h, _⟩
      · rcases hH with ⟨_, h⟩ | ⟨q, y, rfl, h, hq⟩
        · cases h
        · injection h with h
          subst h
          generalize hvq : a.eval q = vq at hq
          cases hq
          refine ok_same M (v := .string (s.extract 0 h.toNat)) ?_ e2 (by rw [e1]; exact .str _)
          simp [execOp, ho, hv, hvq, Instr.sliceAt, run_underlying hu, Instr.slice, Instr.sliceBounds, Instr.sliceBound, asIntOf, h0, h1]
      · cases h
    · rename_i k l
      obtain ⟨e1, e2, _, e4⟩ := valIf_run hr
      obtain ⟨h0, h1⟩ := hc _ (by rw [e4]; exact List.mem_singleton.2 rfl)
      rcases hH with ⟨rfl, _⟩ | ⟨_, _, _, h, _⟩
      · rcases hL with ⟨_, h⟩ | ⟨q, y, rfl, h, hq⟩
        · cases h
        · injection h with h
          subst h
          generalize hvq : a.eval q = vq at hq
          cases hq
          refine ok_same M (v := .string (s.extract l.toNat s.size)) ?_ e2 (by rw [e1]; exact .str _)
          simp [execOp, ho, hv, hvq, Instr.sliceAt, run_underlying hu, Instr.slice, Instr.sliceBounds, Instr.sliceBound, asIntOf, h0, h1]
      · cases h
    · rename_i k l k' h
      obtain ⟨e1, e2, _, e4⟩ := valIf_run hr
      obtain ⟨h0, h1, h2⟩ := hc _ (by rw [e4]; exact List.mem_singleton.2 rfl)
      rcases hL with ⟨_, h'⟩ | ⟨q, y, rfl, h', hq⟩
      · cases h'
      · injection h' with h'; subst h'
        rcases hH with ⟨_, h''⟩ | ⟨q2, y2, rfl, h'', hq2⟩
        · cases h''
        · injection h'' with h''; subst h''
          generalize hvq : a.eval q = vq at hq
          generalize hvq2 : a.eval q2 = vq2 at hq2
          cases hq; cases hq2
          refine ok_same M (v := .string (s.extract l.toNat h.toNat)) ?_ e2 (by rw [e1]; exact .str _)
          have h3 : 0 ≤ h := by omega
          have h4 : l ≤ (h.toNat : Int) := by omega
          simp [execOp, ho, hv, hvq, hvq2, Instr.sliceAt, run_underlying hu, Instr.slice, Instr.sliceBounds, Instr.sliceBound, asIntOf, h0, h2, h3, h4, -Int.ofNat_toNat]
    · cases hr

end
end Go.Ped
