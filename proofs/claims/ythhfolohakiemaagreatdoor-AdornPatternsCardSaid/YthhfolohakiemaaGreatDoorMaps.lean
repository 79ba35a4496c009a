/-
  The engine, part 14b: maps whose keys are texts or integers.
-/
import Derived.Test.YthhfolohakiemaaGreatDoorSound12
import Derived.MapKept
set_option linter.unusedVariables false
namespace Go.Ped
open Go.RowKit

section
variable {P : Program} {F : Fr} {S : Blk} {β : Beta} {hp : List (Nat × Ob)} {w : World} {a : Act} {o : Oper} {res : Res} {rd : List Nat} {sc : List Dir}

theorem keyTy_some {t k e : TypeId} {s : Bool} (h : keyTy P t = some (k, e, s)) : P.underlying t = some (.map k e) ∧ ((s = true ∧ P.underlying k = some .string) ∨ (s = false ∧ ∃ q, P.underlying k = some (.int q))) := by
  unfold keyTy at h
  split at h
  · rename_i k' e' hu
    split at h
    · rename_i hk; injection h with h; simp only [Prod.mk.injEq] at h; obtain ⟨rfl, rfl, rfl⟩ := h; exact ⟨hu, .inl ⟨rfl, hk⟩⟩
    · rename_i q hk; injection h with h; simp only [Prod.mk.injEq] at h; obtain ⟨rfl, rfl, rfl⟩ := h; exact ⟨hu, .inr ⟨rfl, q, hk⟩⟩
    · cases h
  · cases h

/-- The kind of the keys. -/
def KeyD (s : Bool) (d : TypeDesc) : Prop := (s = true ∧ d = .string) ∨ (s = false ∧ ∃ q, d = .int q)

theorem beq_bytes (p q : ByteArray) : (p == q) = decide (p = q) := by
  have h : (p == q) = (p.data == q.data) := rfl
  rw [h]
  by_cases e : p.data = q.data
  · have : p = q := ByteArray.ext e
    simp [this]
  · have : p ≠ q := fun h => e (h ▸ rfl)
    simp [e, this]

theorem same_sound {s b : Bool} {d : TypeDesc} (hd : KeyD s d) {u v : Value} {x y : AV} (hx : V S β w u x) (hy : V S β w v y) (h : sameA s x y = some b) : Instr.sameNow d u v = some b ∧ (b = true → u = v ∧ x = y) := by
  unfold sameA at h
  split at h
  · rename_i k p k' q
    split at h
    · rename_i hk
      obtain ⟨hs, rfl⟩ := hk
      injection h with h
      cases hx; cases hy
      rcases hd with ⟨h1, _⟩ | ⟨_, q', rfl⟩
      · rw [hs] at h1; cases h1
      · subst h
        refine ⟨by simp [Instr.sameNow]; exact Bool.beq_eq_decide_eq .., fun hb => ?_⟩
        have := of_decide_eq_true hb
        subst this
        exact ⟨rfl, rfl⟩
    · cases h
  · rename_i p q
    split at h
    · rename_i hs
      injection h with h
      cases hx; cases hy
      rcases hd with ⟨_, rfl⟩ | ⟨h1, _⟩
      · subst h
        refine ⟨?_, fun hb => ?_⟩
        · simp only [Instr.sameNow]
          rw [beq_bytes]
        · have := of_decide_eq_true hb
          subst this
          exact ⟨rfl, rfl⟩
      · rw [hs] at h1; cases h1
    · cases h
  · cases h

theorem find_sound {s : Bool} {d : TypeDesc} (hd : KeyD s d) {u : Value} {x : AV} (hx : V S β w u x) : ∀ (ks : List AV) (es : List MapEntry) (i : Nat) {r : Option Nat}, ks.length = es.length →
    (∀ (j : Nat) e k, es[j]? = some e → ks[j]? = some k → V S β w e.key k) → findA s x ks i = some r →
    (r = none ∧ Instr.findNow d u es i = some none) ∨ ∃ j e, r = some (i + j) ∧ es[j]? = some e ∧ e.key = u ∧ ks[j]? = some x ∧ Instr.findNow d u es i = some (some (i + j, e.val))
  | [], [], i, r, _, _, h => by
    simp only [findA] at h
    injection h with h
    exact .inl ⟨h.symm, rfl⟩
  | [], _ :: _, i, r, hl, _, _ => by simp at hl
  | _ :: _, [], i, r, hl, _, _ => by simp at hl
  | k :: ks, e :: es, i, r, hl, hv, h => by
    simp only [findA] at h
    have hk := hv 0 e k rfl rfl
    cases hs : sameA s x k with
    | none => rw [hs] at h; cases h
    | some b =>
      rw [hs] at h
      obtain ⟨h1, h2⟩ := same_sound hd hx hk hs
      cases b with
      | true =>
        simp only at h
        injection h with h
        obtain ⟨e1, e2⟩ := h2 rfl
        exact .inr ⟨0, e, by simpa using h.symm, rfl, e1.symm, by rw [e2]; rfl, by simp [Instr.findNow, h1]⟩
      | false =>
        simp only at h
        rcases find_sound hd hx ks es (i + 1) (by simpa using hl) (fun j e k a b => hv (j + 1) e k (by simpa using a) (by simpa using b)) h with ⟨r1, r2⟩ | ⟨j, e', r1, r2, r3, r4, r5⟩
        · exact .inl ⟨r1, by simp [Instr.findNow, h1, r2]⟩
        · refine .inr ⟨j + 1, e', by rw [r1]; congr 1; omega, by simpa using r2, r3, by simpa using r4, ?_⟩
          simp only [Instr.findNow, h1, r5]
          congr 3
          omega

theorem run_checkKeyA {kt : TypeId} {s : Bool} (hk : (s = true ∧ P.underlying kt = some .string) ∨ (s = false ∧ ∃ q, P.underlying kt = some (.int q))) (em : Bool) (v : Value) : (Instr.checkKey em 10000 kt v).run P w = .ok () w := by
  show (Instr.checkKey em (9999 + 1) kt v).run P w = .ok () w
  rcases hk with ⟨_, h⟩ | ⟨_, q, h⟩
  · rw [Instr.checkKey]; simp [run_underlying h]
  · rw [Instr.checkKey]; simp [run_underlying h]

theorem keyD_of {kt : TypeId} {s : Bool} (hk : (s = true ∧ P.underlying kt = some .string) ∨ (s = false ∧ ∃ q, P.underlying kt = some (.int q))) : ∃ d, P.underlying kt = some d ∧ KeyD s d := by
  rcases hk with ⟨h, h'⟩ | ⟨h, q, h'⟩
  · exact ⟨_, h', .inl ⟨h, rfl⟩⟩
  · exact ⟨_, h', .inr ⟨h, q, rfl⟩⟩

theorem run_findKeyA {kt : TypeId} {d : TypeDesc} {u : Value} {es : Array MapEntry} {r : Option (Nat × Value)} (hd : P.underlying kt = some d) (h : Instr.findNow d u es.toList 0 = some r) : (Instr.findKey kt u es.toList).run P w = .ok r w := by
  simp [Instr.findKey, run_underlying hd, h]

theorem out_sound {ok b : Bool} {v : Value} {x : AV} (h : V S β w v x) : V S β w (if ok then .tuple #[v, .bool b] else v) (outA ok x b) := by
  cases ok with
  | false => simpa [outA] using h
  | true =>
    simp only [outA, if_true, cond_true]
    refine .tup [v, .bool b] [x, .bool b] rfl fun i u c h1 h2 => ?_
    match i with
    | 0 => simp at h1 h2; subst h1; subst h2; exact h
    | 1 => simp at h1 h2; subst h1; subst h2; exact .bool b
    | i + 2 => simp at h1

theorem ok_lookup {t : TypeId} {x y : Operand} {ok : Bool} {m k : AV} (ho : o.op = .lookup t x y ok) (M : Mem F S β hp w) (hm : V S β w (a.eval x) m) (hk : V S β w (a.eval y) k) (hr : (lookupA P t m k ok sc).run (look hp) = some (res, rd)) :
    OpOK P F S β hp w a o res := by
  unfold lookupA at hr
  cases hkt : keyTy P t with
  | none => rw [hkt] at hr; cases hr
  | some q =>
    obtain ⟨kt, e, s⟩ := q
    rw [hkt] at hr
    obtain ⟨hu, hkk⟩ := keyTy_some hkt
    obtain ⟨d, hd, hKD⟩ := keyD_of hkk
    simp only at hr
    -- with the entries in hand
    have main : ∀ {es : Array MapEntry} {ks vs : List AV} {rd' : List Nat}, (∀ j v, Instr.findNow d (a.eval y) es.toList 0 = some (some (j, v)) → (Instr.lookup t (a.eval x) (a.eval y) ok).run P w = .ok (if ok then .tuple #[v, .bool true] else v) w) →
        (∀ z, Instr.findNow d (a.eval y) es.toList 0 = some none → (zeroValue e).run P w = .ok z w → (Instr.lookup t (a.eval x) (a.eval y) ok).run P w = .ok (if ok then .tuple #[z, .bool false] else z) w) → ks.length = es.size → vs.length = es.size → (∀ (i : Nat) e k, es[i]? = some e → ks[i]? = some k → V S β w e.key k) →
        (∀ (i : Nat) e v, es[i]? = some e → vs[i]? = some v → V S β w e.val v) → (foundA P e ok vs (findA s k ks 0) sc).run (look hp) = some (res, rd') → OpOK P F S β hp w a o res := by
      intro es ks vs rd' hsm hno hl1 hl2 hkv hvv hr
      cases hf : findA s k ks 0 with
      | none => rw [hf] at hr; cases hr
      | some r =>
        rw [hf] at hr
        have hfs := find_sound hKD hk ks es.toList 0 (by simpa using hl1) (fun j e k a b => hkv j e k (by simpa using a) b) hf
        rcases hfs with ⟨rfl, hn⟩ | ⟨j, en, rfl, he, hke, hkx, hn⟩
        · simp only [foundA] at hr
          cases hz : zeroA P e with
          | none => rw [hz] at hr; cases hr
          | some z =>
            rw [hz] at hr
            obtain ⟨e1, e2, _, _⟩ := val_run hr
            obtain ⟨zv, hz1, hz2, _⟩ := zero_of (P := P) (S := S) (β := β) (w := w) hz
            refine ok_same M (v := if ok then .tuple #[zv, .bool false] else zv) ?_ e2 (by rw [e1]; exact out_sound hz2)
            have hrun := hno zv hn hz1
            simp [execOp, ho, hrun]
        · rw [Nat.zero_add] at hr
          simp only [foundA] at hr
          cases hv : vs[j]? with
          | none => rw [hv] at hr; cases hr
          | some v =>
            rw [hv] at hr
            obtain ⟨e1, e2, _, _⟩ := val_run hr
            have hV := hvv j en v (by simpa using he) hv
            refine ok_same M (v := if ok then .tuple #[en.val, .bool true] else en.val) ?_ e2 (by rw [e1]; exact out_sound hV)
            have hrun := hsm _ _ hn
            simp [execOp, ho, hrun]
    cases m with
    | nilmap =>
      simp only at hr
      generalize hvx : a.eval x = vx at hm main
      cases hm
      exact main (es := #[]) (ks := []) (vs := []) (fun j v h => by simp [Instr.findNow] at h) (fun z h hz => by simp [Instr.lookup, run_underlying hu, run_checkKeyA hkk, run_findKeyA (es := #[]) hd h, hz]) rfl rfl (by simp) (by simp) (by simpa [findA] using hr)
    | tmap ks vs =>
      simp only at hr
      generalize hvx : a.eval x = vx at hm main
      cases hm with
      | tmap r es cl _ _ hS hh hk1 hl1 hkv hvv =>
        exact main (es := es) (fun j v h => by simp [Instr.lookup, run_underlying hu, MapKept.run_getObj_map hh, run_checkKeyA hkk, run_findKeyA hd h]) (fun z h hz => by simp [Instr.lookup, run_underlying hu, MapKept.run_getObj_map hh, run_checkKeyA hkk, run_findKeyA hd h, hz]) hk1 hl1 (fun i e k a b => (hkv i e k a b).up) (fun i e v a b => (hvv i e v a b).up) hr
    | map id =>
      simp only [Rd.run] at hr
      cases hl : look hp id with
      | none => rw [hl] at hr; cases hr
      | some ob =>
        rw [hl] at hr
        have hob := M.obs id ob hl
        cases ob with
        | map ks vs =>
          simp only at hr
          cases hq : (foundA P e ok vs (findA s k ks 0) sc).run (look hp) with
          | none => rw [hq] at hr; cases hr
          | some p =>
            obtain ⟨r1, l1⟩ := p
            rw [hq] at hr
            injection hr with hr; injection hr with hr _; subst hr
            obtain ⟨bi, es, cl, h1, h2, h3, h4, h5, h6, _⟩ := hob
            generalize hvx : a.eval x = vx at hm main
            cases hm with
            | map _ bj hb =>
              rw [hb] at h1; injection h1 with h1; subst h1
              exact main (es := es) (fun j v h => by simp [Instr.lookup, run_underlying hu, MapKept.run_getObj_map h2, run_checkKeyA hkk, run_findKeyA hd h]) (fun z h hz => by simp [Instr.lookup, run_underlying hu, MapKept.run_getObj_map h2, run_checkKeyA hkk, run_findKeyA hd h, hz]) h3 h4 h5 h6 hq
        | _ => cases hr
    | _ => cases hr

theorem ok_makeMap {t : TypeId} {d : Nat} (ho : o.op = .makeMap t none) (M : Mem F S β hp w) (h1 : res.v = .map d) (h2 : res.upd = [(d, .map [] [])]) (hn : look hp d = none) : OpOK P F S β hp w a o res := by
  have hob : HO S (β.add d ⟨w.heap.size, 0, 0⟩) (w.alloc (.map #[] 0)) d (.map [] []) := by
    refine ⟨_, #[], 0, Beta.add_same _ _ _, ?_, rfl, rfl, by simp, by simp, fun _ => MapKept.stamped_empty 0⟩
    show (w.heap.push _)[w.heap.size]? = _
    simp
  obtain ⟨E, M'⟩ := M.alloc hn (.map #[] 0) (.map [] []) 0 0 hob
  refine ok_value (v := .map (some w.heap.size)) (w' := w.alloc (.map #[] 0)) ?_ E (by rw [h2]; exact M') (by rw [h1]; exact .map d ⟨w.heap.size, 0, 0⟩ (Beta.add_same _ _ _))
  simp [execOp, ho, Instr.makeMap]

theorem find_shape {s : Bool} {x : AV} : ∀ (ks : List AV) (i : Nat) {j : Nat}, findA s x ks i = some (some j) → (∃ k a, x = .int k a) ∨ ∃ q, x = .str q
  | [], _, j, h => by simp [findA] at h
  | k :: ks, i, j, h => by
    simp only [findA] at h
    cases hs : sameA s x k with
    | none => rw [hs] at h; cases h
    | some b =>
      cases x with
      | int k a => exact .inl ⟨k, a, rfl⟩
      | str q => exact .inr ⟨q, rfl⟩
      | _ => simp [sameA] at hs

theorem stays_run {u : Value} {x : AV} (hx : V S β w u x) (h : (∃ k a, x = .int k a) ∨ ∃ q, x = .str q) : (Instr.keyThatStays u u).run P w = .ok u w := by
  rcases h with ⟨k, a, rfl⟩ | ⟨q, rfl⟩
  · cases hx
    have : Instr.sameBits 10000 (.int k a) (.int k a) = true := by simp [Instr.sameBits]
    simp [Instr.keyThatStays, this]
  · cases hx
    have : Instr.sameBits 10000 (.string q) (.string q) = true := by simp [Instr.sameBits, beq_bytes]
    simp [Instr.keyThatStays, this]

theorem all_left {ks : List AV} {k : AV} (h : (ks ++ [k]).all txt = true) : ks.all txt = true := by
  rw [List.all_append, Bool.and_eq_true] at h; exact h.1

theorem all_set {ks : List AV} {k : AV} {j : Nat} (hk : ks[j]? = some k) (h : (ks.set j k).all txt = true) : ks.all txt = true := by
  have : ks.set j k = ks := by
    apply List.ext_getElem?
    intro i
    rw [List.getElem?_set]
    by_cases e : j = i
    · subst e
      rw [if_pos rfl, hk]
      rw [if_pos (List.getElem?_eq_some_iff.1 hk).1]
    · rw [if_neg e]
  rw [this] at h
  exact h

theorem findNow_none {d : TypeDesc} {u : Value} : ∀ (es : List MapEntry) (i : Nat), Instr.findNow d u es i = some none → ∀ x, x ∈ es → x.key ≠ u
  | [], _, _, x, hx => by simp at hx
  | e :: es, i, h, x, hx => by
    simp only [Instr.findNow] at h
    cases hs : Instr.sameNow d u e.key with
    | none => rw [hs] at h; cases h
    | some b =>
      rw [hs] at h
      cases b with
      | true => simp at h
      | false =>
        rcases List.mem_cons.1 hx with rfl | hx
        · intro hk
          rw [hk] at hs
          cases d <;> cases u <;> simp [Instr.sameNow, beq_bytes] at hs
        · exact findNow_none es (i + 1) h x hx

theorem ok_update {t : TypeId} {x y z : Operand} {m k v : AV} (ho : o.op = .mapUpdate t x y z) (M : Mem F S β hp w) (hm : V S β w (a.eval x) m) (hk : V S β w (a.eval y) k) (hv : V S β w (a.eval z) v) (hr : (updateA P t m k v sc).run (look hp) = some (res, rd)) :
    OpOK P F S β hp w a o res := by
  unfold updateA at hr
  cases hkt : keyTy P t with
  | none => rw [hkt] at hr; cases hr
  | some q =>
    obtain ⟨kt, e, s⟩ := q
    rw [hkt] at hr
    obtain ⟨hu, hkk⟩ := keyTy_some hkt
    obtain ⟨d, hd, hKD⟩ := keyD_of hkk
    cases m with
    | map id =>
      simp only [Rd.run] at hr
      cases hl : look hp id with
      | none => rw [hl] at hr; cases hr
      | some ob =>
        rw [hl] at hr
        have hob := M.obs id ob hl
        cases ob with
        | map ks vs =>
          simp only at hr
          obtain ⟨bi, es, cl, h1, h2, h3, h4, h5, h6, h7⟩ := hob
          generalize hvx : a.eval x = vx at hm
          cases hm with
          | map _ bj hb =>
            rw [hb] at h1; injection h1 with h1; subst h1
            have hlt : bj.blk < w.heap.size := (M.own id bj hb).2.1
            have turns : ∀ ob, Turns bj w { w with heap := w.heap.setIfInBounds bj.blk ob } := by
              intro ob
              refine ⟨rfl, rfl, rfl, by simp, fun b hb1 hb2 => ?_⟩
              show (w.heap.setIfInBounds bj.blk ob)[b]? = _
              rw [Array.getElem?_setIfInBounds_ne (Ne.symm hb2)]
            have agr : ∀ ob, Agr S w { w with heap := w.heap.setIfInBounds bj.blk ob } := fun ob b hb' => (turns ob).other b (M.sub b hb') (fun e => (M.own id bj hb).1 (e ▸ hb'))
            have new : ∀ ob, ({ w with heap := w.heap.setIfInBounds bj.blk ob } : World).heap[bj.blk]? = some ob := by
              intro ob
              show (w.heap.setIfInBounds bj.blk ob)[bj.blk]? = _
              simp [hlt]
            cases hf : findA s k ks 0 with
            | none => rw [hf] at hr; cases hr
            | some r =>
              rw [hf] at hr
              have hfs := find_sound hKD hk ks es.toList 0 (by simpa using h3) (fun j e k a b => h5 j e k (by simpa using a) b) hf
              rcases hfs with ⟨rfl, hn⟩ | ⟨j, en, rfl, he, hke, hkx, hn⟩
              · simp only [Rd.run] at hr
                injection hr with hr; injection hr with hr _; subst hr
                let ob : Obj := .map (es.push { key := a.eval y, val := a.eval z, born := cl }) (cl + 1)
                have hob' : HO S β { w with heap := w.heap.setIfInBounds bj.blk ob } id (.map (ks ++ [k]) (vs ++ [v])) := by
                  refine ⟨bj, _, _, hb, new ob, by simp [h3], by simp [h4], fun i en kk he hkk => ?_, fun i en vv he hvv => ?_, fun hx => MapKept.stamped_push (h7 (all_left hx)) (findNow_none _ _ hn)⟩
                  · rw [Array.getElem?_push] at he
                    split at he
                    · rename_i hi
                      injection he with he; subst he
                      subst hi
                      rw [List.getElem?_append_right (by omega)] at hkk
                      simp [h3] at hkk
                      subst hkk
                      exact hk.mono (fun _ h => h) (fun _ _ h => h) (agr ob)
                    · have hi : i < es.size := (Array.getElem?_eq_some_iff.1 he).1
                      rw [List.getElem?_append_left (by omega)] at hkk
                      exact (h5 i en kk he hkk).mono (fun _ h => h) (fun _ _ h => h) (agr ob)
                  · rw [Array.getElem?_push] at he
                    split at he
                    · rename_i hi
                      injection he with he; subst he
                      subst hi
                      rw [List.getElem?_append_right (by omega)] at hvv
                      simp [h4] at hvv
                      subst hvv
                      exact hv.mono (fun _ h => h) (fun _ _ h => h) (agr ob)
                    · have hi : i < es.size := (Array.getElem?_eq_some_iff.1 he).1
                      rw [List.getElem?_append_left (by omega)] at hvv
                      exact (h6 i en vv he hvv).mono (fun _ h => h) (fun _ _ h => h) (agr ob)
                obtain ⟨E, M'⟩ := M.turn hb hl (by simp) (turns ob) _ hob'
                refine ok_skip ?_ E M' rfl
                have hrun : (Instr.mapUpdate t (.map (some bj.blk)) (a.eval y) (a.eval z)).run P w = .ok () { w with heap := w.heap.setIfInBounds bj.blk ob } := by
                  simp [Instr.mapUpdate, run_underlying hu, MapKept.run_getObj_map h2, run_checkKeyA hkk, run_findKeyA hd hn, MapKept.run_setObj_map _ h2, ob]
                simp [execOp, ho, hvx, hrun]
              · rw [Nat.zero_add] at hr hn
                simp only [Rd.run] at hr
                injection hr with hr; injection hr with hr _; subst hr
                have hj : es[j]? = some en := by simpa using he
                have hshape := find_shape ks 0 (by rw [hf, Nat.zero_add])
                let ob : Obj := .map (es.modify j fun e => { e with key := a.eval y, val := a.eval z }) cl
                have hob' : HO S β { w with heap := w.heap.setIfInBounds bj.blk ob } id (.map (ks.set j k) (vs.set j v)) := by
                  refine ⟨bj, _, _, hb, new ob, by simp [h3], by simp [h4], fun i en kk he hkk => ?_, fun i en vv he hvv => ?_, fun hx => MapKept.stamped_modify (h7 (all_set hkx hx)) j _ (fun _ _ => rfl) (fun e0 _ he0 => by rw [hj] at he0; injection he0 with he0; subst he0; exact hke.symm)⟩
                  · rw [Array.getElem?_modify] at he
                    rw [List.getElem?_set] at hkk
                    by_cases hij : j = i
                    · subst hij
                      rw [if_pos rfl, hj] at he
                      simp at he
                      subst he
                      rw [if_pos rfl] at hkk
                      split at hkk
                      · injection hkk with hkk; subst hkk
                        exact hk.mono (fun _ h => h) (fun _ _ h => h) (agr ob)
                      · cases hkk
                    · rw [if_neg hij] at he hkk
                      exact (h5 i en kk he hkk).mono (fun _ h => h) (fun _ _ h => h) (agr ob)
                  · rw [Array.getElem?_modify] at he
                    rw [List.getElem?_set] at hvv
                    by_cases hij : j = i
                    · subst hij
                      rw [if_pos rfl, hj] at he
                      simp at he
                      subst he
                      rw [if_pos rfl] at hvv
                      split at hvv
                      · injection hvv with hvv; subst hvv
                        exact hv.mono (fun _ h => h) (fun _ _ h => h) (agr ob)
                      · cases hvv
                    · rw [if_neg hij] at he hvv
                      exact (h6 i en vv he hvv).mono (fun _ h => h) (fun _ _ h => h) (agr ob)
                obtain ⟨E, M'⟩ := M.turn hb hl (by simp) (turns ob) _ hob'
                refine ok_skip ?_ E M' rfl
                have hstay := stays_run (P := P) hk hshape
                have hrun : (Instr.mapUpdate t (.map (some bj.blk)) (a.eval y) (a.eval z)).run P w = .ok () { w with heap := w.heap.setIfInBounds bj.blk ob } := by
                  simp [Instr.mapUpdate, run_underlying hu, MapKept.run_getObj_map h2, run_checkKeyA hkk, run_findKeyA hd hn, MapKept.run_setObj_map _ h2, hj, hke, hstay, ob]
                simp [execOp, ho, hvx, hrun]
        | _ => cases hr
    | _ => cases hr

theorem conc_of {t : TypeId} (h : concA P t = true) : ∃ d, P.underlying t = some d ∧ ∀ ms, d ≠ .interface ms := by
  unfold concA at h
  cases hu : P.underlying t with
  | none => rw [hu] at h; cases h
  | some d =>
    refine ⟨d, rfl, ?_⟩
    rintro ms rfl
    rw [hu] at h
    cases h

theorem ok_typeAssert {x : Operand} {xt t : TypeId} {ok : Bool} {X : AV} (ho : o.op = .typeAssert x xt t ok) (M : Mem F S β hp w) (hx : V S β w (a.eval x) X) (hr : (assertA P X t ok sc).run (look hp) = some (res, rd)) : OpOK P F S β hp w a o res := by
  unfold assertA at hr
  by_cases hcn : concA P t = true
  · rw [if_pos hcn] at hr
    obtain ⟨d, hd, hni⟩ := conc_of hcn
    have miss : ∀ {v : Value}, ((∃ dt u, v = .iface dt u ∧ dt ≠ t) ∨ v = .nilIface) → ∀ z zv, (zeroValue t).run P w = .ok zv w → V S β w zv z → a.eval x = v → ok = true → res.v = outA true z false → res.upd = [] → OpOK P F S β hp w a o res := by
      intro v hv z zv hz hV hvx hok e1 e2
      subst hok
      refine ok_same M (v := .tuple #[zv, .bool false]) ?_ e2 (by rw [e1]; exact out_sound (ok := true) hV)
      rcases hv with ⟨dt, u, rfl, hne⟩ | rfl
      · cases d <;> first
          | exact absurd rfl (hni _)
          | simp [execOp, ho, hvx, Instr.typeAssert, run_underlying hd, hne, hz]
      · cases d <;> first
          | exact absurd rfl (hni _)
          | simp [execOp, ho, hvx, Instr.typeAssert, run_underlying hd, hz]
    cases X with
    | iface dt v =>
      simp only at hr
      generalize hvx : a.eval x = vx at hx
      cases hx with
      | iface _ u _ h =>
        by_cases hdt : dt = t
        · rw [if_pos hdt] at hr
          obtain ⟨e1, e2, _, _⟩ := val_run hr
          subst hdt
          refine ok_same M (v := if ok then .tuple #[u, .bool true] else u) ?_ e2 (by rw [e1]; exact out_sound h)
          cases d <;> first
            | exact absurd rfl (hni _)
            | simp [execOp, ho, hvx, Instr.typeAssert, run_underlying hd]
        · rw [if_neg hdt] at hr
          split at hr
          · rename_i z hz
            obtain ⟨e1, e2, _, _⟩ := val_run hr
            obtain ⟨zv, hz1, hz2, _⟩ := zero_of (P := P) (S := S) (β := β) (w := w) hz
            exact miss (.inl ⟨dt, u, rfl, hdt⟩) z zv hz1 hz2 hvx rfl e1 e2
          · cases hr
    | nili =>
      simp only at hr
      generalize hvx : a.eval x = vx at hx
      cases hx
      split at hr
      · rename_i z hz
        obtain ⟨e1, e2, _, _⟩ := val_run hr
        obtain ⟨zv, hz1, hz2, _⟩ := zero_of (P := P) (S := S) (β := β) (w := w) hz
        exact miss (.inr rfl) z zv hz1 hz2 hvx rfl e1 e2
      · cases hr
    | _ => cases hr
  · rw [if_neg hcn] at hr; cases hr

end
end Go.Ped
