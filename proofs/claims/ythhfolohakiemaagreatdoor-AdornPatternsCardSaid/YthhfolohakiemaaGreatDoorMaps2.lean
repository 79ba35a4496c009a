/-
  The engine, part 14c: maps whose keys are structs of texts, integers, truth values.
-/
import Derived.Test.YthhfolohakiemaaGreatDoorMaps
set_option linter.unusedVariables false
namespace Go.Ped
open Go.RowKit

section
variable {P : Program} {F : Fr} {S : Blk} {β : Beta} {hp : List (Nat × Ob)} {w : World} {a : Act} {o : Oper} {res : Res} {rd : List Nat} {sc : List Dir}

theorem keyStruct_some {t k e : TypeId} {l : List Field} (h : keyStruct P t = some (k, e, l)) :
    P.underlying t = some (.map k e) ∧ ∃ fs : Array Field, P.underlying k = some (.struct fs) ∧ fs.toList = l ∧ ∀ f, f ∈ l → plainA P f.type = true ∧ sizeA P f.type = some 1 := by
  unfold keyStruct at h
  split at h
  · rename_i k' e' hu
    split at h
    · rename_i fs hk
      split at h
      · rename_i hall
        injection h with h; simp only [Prod.mk.injEq] at h; obtain ⟨rfl, rfl, rfl⟩ := h
        refine ⟨hu, fs, hk, rfl, fun f hf => ?_⟩
        have := List.all_eq_true.1 hall f hf
        simpa using this
      · cases h
    · cases h
  · cases h

theorem plain_agg {t : TypeId} (h : plainA P t = true) : aggA P t = some false ∧ ∀ (em : Bool) (n : Nat) (v : Value), (Instr.checkKey em (n + 1) t v).run P w = .ok () w := by
  unfold plainA at h
  split at h
  · rename_i hu
    refine ⟨by unfold aggA; rw [hu], fun em n v => ?_⟩
    rw [Instr.checkKey]; simp [run_underlying hu]
  · rename_i q hu
    refine ⟨by unfold aggA; rw [hu], fun em n v => ?_⟩
    rw [Instr.checkKey]; simp [run_underlying hu]
  · rename_i hu
    refine ⟨by unfold aggA; rw [hu], fun em n v => ?_⟩
    rw [Instr.checkKey]; simp [run_underlying hu]
  · cases h

theorem run_checkFields (em : Bool) (n : Nat) (vs : List Value) : ∀ (l : List Field), (∀ f, f ∈ l → plainA P f.type = true ∧ sizeA P f.type = some 1) → fieldsIn l vs.length = true →
    Sem.run P (forIn l PUnit.unit fun f (_ : PUnit) => (if f.name ≠ "_" then (do let x ← part f.type vs.toArray f.offset; Instr.checkKey em (n + 1) f.type x; pure (ForInStep.yield PUnit.unit)) else pure (ForInStep.yield PUnit.unit) : Sem (ForInStep PUnit))) w = .ok PUnit.unit w
  | [], _, _ => by simp
  | f :: l, h, hi => by
    obtain ⟨h1, h2⟩ := h f (by simp)
    obtain ⟨hag, hck⟩ := plain_agg (w := w) h1
    simp only [fieldsIn, List.all_cons, Bool.and_eq_true, decide_eq_true_eq] at hi
    have hp := run_part (P := P) (w := w) hag h2 vs f.offset (by omega) (fun _ => rfl)
    have ih := run_checkFields em n vs l (fun g hg => h g (List.mem_cons_of_mem _ hg)) hi.2
    rw [List.forIn_cons]
    by_cases hn : f.name = "_"
    · simp only [hn, ne_eq, not_true_eq_false, if_false]
      simpa using ih
    · simp only [ne_eq, hn, not_false_eq_true, if_true, Sem.run_bind, hp, Result.andThen_ok, hck]
      simpa using ih

theorem run_checkStruct {k : TypeId} {fs : Array Field} {l : List Field} (hk : P.underlying k = some (.struct fs)) (hl : fs.toList = l) (h : ∀ f, f ∈ l → plainA P f.type = true ∧ sizeA P f.type = some 1) {vs : List Value} (hi : fieldsIn l vs.length = true) (em : Bool) :
    (Instr.checkKey em 10000 k (.agg vs.toArray)).run P w = .ok () w := by
  show (Instr.checkKey em (9998 + 1 + 1) k (.agg vs.toArray)).run P w = .ok () w
  rw [Instr.checkKey]
  simp only [Sem.run_bind, run_underlying hk, Result.andThen_ok]
  have := run_checkFields (P := P) (w := w) em 9998 vs l h hi
  rw [← hl] at this
  rw [← Array.forIn_toList, this]
  simp

theorem findS_sound {kt : TypeId} {fs : Array Field} (hk : P.underlying kt = some (.struct fs)) {us : List Value} {xs : List AV} (hx : Each S β w us xs) : ∀ (ks : List AV) (es : List MapEntry) (i : Nat) {r : Option Nat}, ks.length = es.length →
    (∀ (j : Nat) e k, es[j]? = some e → ks[j]? = some k → V S β w e.key k) → findS P kt xs ks i = some r →
    (r = none ∧ (Instr.findAsking kt (.agg us.toArray) es i).run P w = .ok none w) ∨ ∃ j e, r = some (i + j) ∧ es[j]? = some e ∧ (Instr.findAsking kt (.agg us.toArray) es i).run P w = .ok (some (i + j, e.val)) w
  | [], [], i, r, _, _, h => by
    simp only [findS] at h
    injection h with h
    exact .inl ⟨h.symm, by simp [Instr.findAsking]⟩
  | [], _ :: _, i, r, hl, _, _ => by simp at hl
  | _ :: _, [], i, r, hl, _, _ => by simp at hl
  | k :: ks, e :: es, i, r, hl, hv, h => by
    have hkv := hv 0 e k rfl rfl
    cases k with
    | agg ys =>
      simp only [findS] at h
      generalize hek : e.key = ek at hkv
      cases hkv with
      | agg vs _ hl' h' =>
        have hg : aggA P kt = some true := by unfold aggA; rw [hk]
        have main : ∀ b, eqTy P 20 kt xs ys = some (b, [], []) → (Op.equal kt (.agg us.toArray) (.agg vs.toArray)).run P w = .ok b w := by
          intro b hq
          obtain ⟨m, i1, i2, i3, i4, i5⟩ := eqTy_sound (P := P) (S := S) (β := β) (w := w) 20 10000 (by omega) kt xs ys [] [] b us vs hq hx ⟨hl', h'⟩
          have := i5 true hg (by simp)
          have k1 : us.take m = us := List.take_of_length_le (by have := congrArg List.length i1; rw [List.length_drop] at this; simp at this; have := hx.1; omega)
          have k2 : vs.take m = vs := List.take_of_length_le (by have := congrArg List.length i2; rw [List.length_drop] at this; simp at this; omega)
          rw [k1, k2] at this
          simpa [valOf, Op.equal, Op.maxDepth] using this
        split at h
        · rename_i hq
          injection h with h
          exact .inr ⟨0, e, h.symm, rfl, by simp [Instr.findAsking, hek, main _ hq]⟩
        · rename_i hq
          rcases findS_sound hk hx ks es (i + 1) (by simpa using hl) (fun j e k a b => hv (j + 1) e k (by simpa using a) (by simpa using b)) h with ⟨r1, r2⟩ | ⟨j, e', r1, r2, r3⟩
          · exact .inl ⟨r1, by simp [Instr.findAsking, hek, main _ hq, r2]⟩
          · refine .inr ⟨j + 1, e', by rw [r1]; congr 1; omega, by simpa using r2, ?_⟩
            have : i + 1 + j = i + (j + 1) := by omega
            rw [this] at r3
            simp [Instr.findAsking, hek, main _ hq, r3]
        · cases h
    | _ => simp only [findS] at h; cases h

theorem run_findKeyS {kt : TypeId} {fs : Array Field} (hk : P.underlying kt = some (.struct fs)) {u : Array Value} {es : Array MapEntry} {r : Option (Nat × Value)} (h : (Instr.findAsking kt (.agg u) es.toList 0).run P w = .ok r w) :
    (Instr.findKey kt (.agg u) es.toList).run P w = .ok r w := by
  unfold Instr.findKey
  simp only [Sem.run_bind, run_underlying hk, Result.andThen_ok]
  cases hes : es.toList with
  | nil =>
    rw [hes] at h
    simp only [Instr.findAsking, Sem.run_pure] at h
    simpa [Instr.findNow] using h
  | cons e l =>
    rw [hes] at h
    simpa [Instr.findNow, Instr.sameNow] using h

theorem ok_lookupS {t : TypeId} {x y : Operand} {ok : Bool} {m : AV} {xs : List AV} (ho : o.op = .lookup t x y ok) (M : Mem F S β hp w) (hm : V S β w (a.eval x) m) (hk : V S β w (a.eval y) (.agg xs)) (hr : (lookupS P t m (.agg xs) ok sc).run (look hp) = some (res, rd)) :
    OpOK P F S β hp w a o res := by
  unfold lookupS at hr
  cases hkt : keyStruct P t with
  | none => rw [hkt] at hr; cases hr
  | some q =>
    obtain ⟨kt, e, l⟩ := q
    rw [hkt] at hr
    obtain ⟨hu, fs, hd, hl, hpl⟩ := keyStruct_some hkt
    simp only at hr
    by_cases hfi : fieldsIn l xs.length = true
    · rw [if_pos hfi] at hr
      generalize hvy : a.eval y = vy at hk
      cases hk with
      | agg us _ hul hu' =>
        have hck : ∀ em, (Instr.checkKey em 10000 kt (.agg us.toArray)).run P w = .ok () w := fun em => run_checkStruct hd hl hpl (by rw [hul]; exact hfi) em
        cases m with
        | nilmap =>
          simp only [foundA] at hr
          generalize hvx : a.eval x = vx at hm
          cases hm
          cases hz : zeroA P e with
          | none => rw [hz] at hr; cases hr
          | some z =>
            rw [hz] at hr
            obtain ⟨e1, e2, _, _⟩ := val_run hr
            obtain ⟨zv, hz1, hz2, _⟩ := zero_of (P := P) (S := S) (β := β) (w := w) hz
            refine ok_same M (v := if ok then .tuple #[zv, .bool false] else zv) ?_ e2 (by rw [e1]; exact out_sound hz2)
            have hfk := run_findKeyS (es := #[]) (u := us.toArray) (r := none) (w := w) hd (by simp [Instr.findAsking])
            have hrun : (Instr.lookup t (.map none) (.agg us.toArray) ok).run P w = .ok (if ok then .tuple #[zv, .bool false] else zv) w := by
              simp [Instr.lookup, run_underlying hu, hck, hfk, hz1]
            simp [execOp, ho, hvx, hvy, hrun]
        | map id =>
          simp only [Rd.run] at hr
          cases hlk : look hp id with
          | none => rw [hlk] at hr; cases hr
          | some ob =>
            rw [hlk] at hr
            have hob := M.obs id ob hlk
            cases ob with
            | map ks vs =>
              simp only at hr
              cases hq : (foundA P e ok vs (findS P kt xs ks 0) sc).run (look hp) with
              | none => rw [hq] at hr; cases hr
              | some p =>
                obtain ⟨r1, l1⟩ := p
                rw [hq] at hr
                injection hr with hr; injection hr with hr _; subst hr
                obtain ⟨bi, es, cl, h1, h2, h3, h4, h5, h6, _⟩ := hob
                generalize hvx : a.eval x = vx at hm
                cases hm with
                | map _ bj hb =>
                  rw [hb] at h1; injection h1 with h1; subst h1
                  cases hf : findS P kt xs ks 0 with
                  | none => rw [hf] at hq; cases hq
                  | some r =>
                    rw [hf] at hq
                    rcases findS_sound (P := P) (S := S) (β := β) (w := w) hd ⟨hul, hu'⟩ ks es.toList 0 (by simpa using h3) (fun j e k a b => h5 j e k (by simpa using a) b) hf with ⟨rfl, hn⟩ | ⟨j, en, rfl, he, hn⟩
                    · simp only [foundA] at hq
                      cases hz : zeroA P e with
                      | none => rw [hz] at hq; cases hq
                      | some z =>
                        rw [hz] at hq
                        obtain ⟨e1, e2, _, _⟩ := val_run hq
                        obtain ⟨zv, hz1, hz2, _⟩ := zero_of (P := P) (S := S) (β := β) (w := w) hz
                        refine ok_same M (v := if ok then .tuple #[zv, .bool false] else zv) ?_ e2 (by rw [e1]; exact out_sound hz2)
                        have hfk := run_findKeyS hd hn
                        have hrun : (Instr.lookup t (.map (some bj.blk)) (.agg us.toArray) ok).run P w = .ok (if ok then .tuple #[zv, .bool false] else zv) w := by
                          simp [Instr.lookup, run_underlying hu, MapKept.run_getObj_map h2, hck, hfk, hz1]
                        simp [execOp, ho, hvx, hvy, hrun]
                    · rw [Nat.zero_add] at hq hn
                      simp only [foundA] at hq
                      cases hv : vs[j]? with
                      | none => rw [hv] at hq; cases hq
                      | some v =>
                        rw [hv] at hq
                        obtain ⟨e1, e2, _, _⟩ := val_run hq
                        have hV := h6 j en v (by simpa using he) hv
                        refine ok_same M (v := if ok then .tuple #[en.val, .bool true] else en.val) ?_ e2 (by rw [e1]; exact out_sound hV)
                        have hfk := run_findKeyS hd hn
                        have hrun : (Instr.lookup t (.map (some bj.blk)) (.agg us.toArray) ok).run P w = .ok (if ok then .tuple #[en.val, .bool true] else en.val) w := by
                          simp [Instr.lookup, run_underlying hu, MapKept.run_getObj_map h2, hck, hfk]
                        simp [execOp, ho, hvx, hvy, hrun]
            | _ => cases hr
        | _ => cases hr
    · rw [if_neg hfi] at hr; cases hr

theorem findS_txt {kt : TypeId} {xs : List AV} : ∀ (ks : List AV) (k : AV), txt k = false → (ks ++ [k]).all txt = true → False := by
  intro ks k hk h
  rw [List.all_append] at h
  simp [hk] at h

theorem ok_updateS {t : TypeId} {x y z : Operand} {m v : AV} {xs : List AV} (ho : o.op = .mapUpdate t x y z) (M : Mem F S β hp w) (hm : V S β w (a.eval x) m) (hk : V S β w (a.eval y) (.agg xs)) (hv : V S β w (a.eval z) v)
    (hr : (updateS P t m (.agg xs) v sc).run (look hp) = some (res, rd)) : OpOK P F S β hp w a o res := by
  unfold updateS at hr
  cases hkt : keyStruct P t with
  | none => rw [hkt] at hr; cases hr
  | some q =>
    obtain ⟨kt, e, l⟩ := q
    rw [hkt] at hr
    obtain ⟨hu, fs, hd, hl, hpl⟩ := keyStruct_some hkt
    simp only at hr
    by_cases hfi : fieldsIn l xs.length = true
    · rw [if_pos hfi] at hr
      have hk0 := hk
      generalize hvy : a.eval y = vy at hk
      cases hk with
      | agg us _ hul hu' =>
        have hck : ∀ em, (Instr.checkKey em 10000 kt (.agg us.toArray)).run P w = .ok () w := fun em => run_checkStruct hd hl hpl (by rw [hul]; exact hfi) em
        cases m with
        | map id =>
          simp only [Rd.run] at hr
          cases hlk : look hp id with
          | none => rw [hlk] at hr; cases hr
          | some ob =>
            rw [hlk] at hr
            have hob := M.obs id ob hlk
            cases ob with
            | map ks vs =>
              simp only at hr
              obtain ⟨bi, es, cl, h1, h2, h3, h4, h5, h6, h7⟩ := hob
              generalize hvx : a.eval x = vx at hm
              cases hm with
              | map _ bj hb =>
                rw [hb] at h1; injection h1 with h1; subst h1
                have hlt : bj.blk < w.heap.size := (M.own id bj hb).2.1
                have turns : ∀ ob, Turns bj w { w with heap := w.heap.setIfInBounds bj.blk ob } := by
                  intro ob
                  refine ⟨rfl, rfl, rfl, by simp, fun b hb1 hb2 => ?_⟩
                  show (w.heap.setIfInBounds bj.blk ob)[b]? = _
                  rw [Array.getElem?_setIfInBounds_ne (Ne.symm hb2)]
                have agr : ∀ ob, Agr S w { w with heap := w.heap.setIfInBounds bj.blk ob } := fun ob b hb' => (turns ob).other b (M.sub b hb') (fun e => (M.own id bj hb).1 (e ▸ hb'))
                have new : ∀ ob, ({ w with heap := w.heap.setIfInBounds bj.blk ob } : World).heap[bj.blk]? = some ob := by
                  intro ob
                  show (w.heap.setIfInBounds bj.blk ob)[bj.blk]? = _
                  simp [hlt]
                cases hf : findS P kt xs ks 0 with
                | none => rw [hf] at hr; cases hr
                | some r =>
                  rw [hf] at hr
                  rcases findS_sound (P := P) (S := S) (β := β) (w := w) hd ⟨hul, hu'⟩ ks es.toList 0 (by simpa using h3) (fun j e k a b => h5 j e k (by simpa using a) b) hf with ⟨rfl, hn⟩ | ⟨j, en, rfl, he, hn⟩
                  · simp only [Rd.run] at hr
                    injection hr with hr; injection hr with hr _; subst hr
                    rw [hvy] at hk0
                    let ob : Obj := .map (es.push { key := .agg us.toArray, val := a.eval z, born := cl }) (cl + 1)
                    have hob' : HO S β { w with heap := w.heap.setIfInBounds bj.blk ob } id (.map (ks ++ [.agg xs]) (vs ++ [v])) := by
                      refine ⟨bj, _, _, hb, new ob, by simp [h3], by simp [h4], fun i en kk he hkk => ?_, fun i en vv he hvv => ?_, fun hx => (findS_txt (kt := kt) (xs := xs) _ _ rfl hx).elim⟩
                      · rw [Array.getElem?_push] at he
                        split at he
                        · rename_i hi
                          injection he with he; subst he
                          subst hi
                          rw [List.getElem?_append_right (by omega)] at hkk
                          simp [h3] at hkk
                          subst hkk
                          exact hk0.mono (fun _ h => h) (fun _ _ h => h) (agr ob)
                        · have hi : i < es.size := (Array.getElem?_eq_some_iff.1 he).1
                          rw [List.getElem?_append_left (by omega)] at hkk
                          exact (h5 i en kk he hkk).mono (fun _ h => h) (fun _ _ h => h) (agr ob)
                      · rw [Array.getElem?_push] at he
                        split at he
                        · rename_i hi
                          injection he with he; subst he
                          subst hi
                          rw [List.getElem?_append_right (by omega)] at hvv
                          simp [h4] at hvv
                          subst hvv
                          exact hv.mono (fun _ h => h) (fun _ _ h => h) (agr ob)
                        · have hi : i < es.size := (Array.getElem?_eq_some_iff.1 he).1
                          rw [List.getElem?_append_left (by omega)] at hvv
                          exact (h6 i en vv he hvv).mono (fun _ h => h) (fun _ _ h => h) (agr ob)
                    obtain ⟨E, M'⟩ := M.turn hb hlk (by simp) (turns ob) _ hob'
                    refine ok_skip ?_ E M' rfl
                    have hfk := run_findKeyS hd hn
                    have hrun : (Instr.mapUpdate t (.map (some bj.blk)) (.agg us.toArray) (a.eval z)).run P w = .ok () { w with heap := w.heap.setIfInBounds bj.blk ob } := by
                      simp [Instr.mapUpdate, run_underlying hu, MapKept.run_getObj_map h2, hck, hfk, MapKept.run_setObj_map _ h2, ob]
                    simp [execOp, ho, hvx, hvy, hrun]
                  · cases hr
            | _ => cases hr
        | _ => cases hr
    · rw [if_neg hfi] at hr; cases hr

end
end Go.Ped
