/-
  The engine, part 14: append.
-/
import Derived.Test.YthhfolohakiemaaGreatDoorSound10
set_option linter.unusedVariables false
namespace Go.Ped
open Go.RowKit

section
variable {P : Program} {F : Fr} {S : Blk} {β : Beta} {hp : List (Nat × Ob)} {w : World} {a : Act} {o : Oper} {res : Res} {rd : List Nat} {sc : List Dir}

/-- A new row behind an append that grows. -/
theorem grow_row {d cap e : Nat} {z : Value} {i : TypeInfo} {es ys : List AV} {olds news : List Value} (M : Mem F S β hp w) (hd : look hp d = none) (hz : z.cells.size = i.size) (h1 : ∀ e, e ∈ es → e.cells.length = i.size) (h2 : ∀ e, e ∈ ys → e.cells.length = i.size)
    (k1 : Each S β w olds (flat es)) (k2 : Each S β w news (flat ys)) (hmax : es.length + ys.length ≤ maxLen) :
    ∃ S' β', Ext S S' β β' w (w.drew.alloc (.cells (olds.toArray ++ news.toArray ++ Builtin.zeroCells z.cells (grownCap w (es.length + ys.length) cap e - (es.length + ys.length))) e)) ∧
      Mem F S' β' (putL hp d (.row i.size (es ++ ys))) (w.drew.alloc (.cells (olds.toArray ++ news.toArray ++ Builtin.zeroCells z.cells (grownCap w (es.length + ys.length) cap e - (es.length + ys.length))) e)) ∧
      V S' β' (w.drew.alloc (.cells (olds.toArray ++ news.toArray ++ Builtin.zeroCells z.cells (grownCap w (es.length + ys.length) cap e - (es.length + ys.length))) e)) (.slice (some ⟨w.heap.size, 0, none⟩) (es.length + ys.length) (grownCap w (es.length + ys.length) cap e)) (.row d 0 (es.length + ys.length)) := by
  have hge := grownCap_ge w (es.length + ys.length) cap e
  have hcm : grownCap w (es.length + ys.length) cap e ≤ maxLen := grownCap_le_maxLen w _ cap e hmax
  have M' : Mem F S β hp w.drew := ⟨M.tab, M.os, M.tape, M.output, M.size, M.keep, fun id x hx => HO.mono (w := w) (w' := w.drew) (fun _ h => h) (fun _ _ h => h) (fun _ _ => rfl) (fun _ _ => rfl) (M.obs id x hx), M.dom, M.inj, M.own, M.sub, M.base, M.new, M.giv⟩
  have E0 : Ext S S β β w w.drew := ⟨fun _ h => h, fun _ _ h => h, fun _ _ => rfl⟩
  have hol : olds.length = es.length * i.size := by rw [k1.1, flat_length h1]
  have hnl : news.length = ys.length * i.size := by rw [k2.1, flat_length h2]
  have huni : ∀ e, e ∈ es ++ ys → e.cells.length = i.size := fun e he => (List.mem_append.1 he).elim (h1 e) (h2 e)
  have hflat : Each S β w.drew ((olds.toArray ++ news.toArray ++ Builtin.zeroCells z.cells (grownCap w (es.length + ys.length) cap e - (es.length + ys.length))).toList.take ((es.length + ys.length) * i.size)) (flat (es ++ ys)) := by
    have : (olds.toArray ++ news.toArray ++ Builtin.zeroCells z.cells (grownCap w (es.length + ys.length) cap e - (es.length + ys.length))).toList.take ((es.length + ys.length) * i.size) = olds ++ news := by
      simp only [Array.toList_append]
      have hl : (es.length + ys.length) * i.size = (olds ++ news).length := by rw [List.length_append, hol, hnl, Nat.add_mul]
      rw [hl]
      exact List.take_left
    rw [this, flat_append]
    exact (k1.append k2).mono E0
  obtain ⟨S', β', E, M2, hv⟩ := new_row (d := d) (n := es.length + ys.length) (cap := grownCap w (es.length + ys.length) cap e) (sz := i.size) (es := es ++ ys) (t := e) M' hd (by simp)
    (by simp only [Array.size_append, List.size_toArray, size_zeroCells, hz, hol, hnl, ← Nat.add_mul]; congr 1; omega) hge hcm huni hflat
  exact ⟨S', β', E0.trans E, M2, hv⟩

theorem ok_append {t : TypeId} {d : Nat} {x y : Operand} {X Y : AV} (ho : o.op = .call ⟨.builtin .append, #[x, y], #[t, t]⟩) (M : Mem F S β hp w) (hx : V S β w (a.eval x) X) (hy : V S β w (a.eval y) Y)
    (hr : (appendA P d t X Y sc).run (look hp) = some (res, rd)) (hc : ∀ c, c ∈ res.cs → c.p) (hn : ∀ id, id ∈ res.new → look hp id = none) : OpOK P F S β hp w a o res := by
  have exec : ∀ {v : Value} {w' : World}, (Builtin.append_ #[t, t] o.type #[a.eval x, a.eval y]).run P w = .ok v w' → (execOp a.eval o).run P w = .ok (.value v) w' := by
    intro v w' h
    simp [execOp, ho, resolve, invoke, builtin, h]
  unfold appendA at hr
  cases hu : P.underlying t with
  | none => rw [hu] at hr; cases hr
  | some ds =>
    rw [hu] at hr
    cases ds <;> first
      | (cases hr; done)
      | skip
    rename_i e
    simp only at hr
    cases hi : P.info? e with
    | none => rw [hi] at hr; cases hr
    | some i =>
      cases hz : zeroA P e with
      | none => rw [hi, hz] at hr; cases hr
      | some z =>
        rw [hi, hz] at hr
        simp only at hr
        by_cases hg : z.cells.length = i.size ∧ 0 < i.size ∧ ¬ isDead z = true
        · rw [if_pos hg] at hr
          obtain ⟨g1, g2, g3⟩ := hg
          obtain ⟨i', zv, hi', hzv, hE⟩ := zero_each (S := S) (β := β) (w := w) hz (by simpa using g3)
          rw [hi] at hi'; injection hi' with hi'; subst hi'
          have hzs : zv.cells.size = i.size := by have := hE.1; rw [g1] at this; simpa using this
          -- nothing is put behind
          have same : ∀ {X : AV}, V S β w (a.eval x) X → (∀ v, V S β w v X → ∃ p n cap, v = .slice p n cap ∧ n ≤ cap) → (newsA Y fun ys q => valIf X (q.p ∧ ys = []) sc.tail).run (look hp) = some (res, rd) → OpOK P F S β hp w a o res := by
            intro X hx hform hr
            obtain ⟨ys, q, rd', h1, h2⟩ := news_run M hr
            obtain ⟨e1, e2, _, e4⟩ := valIf_run h1
            obtain ⟨hq, hys⟩ := hc _ (by rw [e4]; exact List.mem_singleton.2 rfl)
            subst hys
            obtain ⟨p', c, hvy, _⟩ := h2 _ i.size hy hq (by simp)
            obtain ⟨p, n, cap, hvx, hle⟩ := hform _ hx
            refine ok_same M (v := a.eval x) (exec ?_) e2 (by rw [e1]; exact hx)
            rw [hvx, hvy]
            exact append_same hu hi o.type p n cap hle p' c
          split at hr
          · rename_i es c sc'
            refine same hx (fun v hv => ?_) hr
            cases hv with
            | seq p cap sz b q _ _ U hcap hmax hclip hp' hsz hcc hvv => exact ⟨p, es.length, cap, rfl, hcap⟩
          · rename_i id off len sc'
            refine same hx (fun v hv => ?_) hr
            cases hv with
            | row _ _ _ ad bi hb hle ha => exact ⟨some ad, len, bi.cap - off, rfl, by omega⟩
          · rename_i es sc'
            obtain ⟨ys, q, rd', h1, h2⟩ := news_run M hr
            injection h1 with h1; injection h1 with h1 _; subst h1
            obtain ⟨hq, hne, hok, hoke, hby, hmax⟩ := hc _ (List.mem_singleton.2 rfl)
            have hu1 : ∀ e, e ∈ ys → e.cells.length = i.size := fun e he => (hok e he).1
            have hu2 : ∀ e, e ∈ es → e.cells.length = i.size := fun e he => (hoke e he).1
            obtain ⟨p', c, hvy, hnews⟩ := h2 _ i.size hy hq hu1
            obtain ⟨ad, news, rfl, k2, hcn⟩ := hnews hne
            have hnl : news.length = ys.length * i.size := by rw [k2.1, flat_length hu1]
            have hyl : 0 < ys.length := List.length_pos_iff.2 hne
            have hby' : (es.length + ys.length) * i.bytes ≤ 140737488355328 := by
              have : (((es.length + ys.length) * i.bytes : Nat) : Int) ≤ 140737488355328 := by rw [Int.natCast_mul]; exact hby
              omega
            -- what was there
            have hsrc := news_run (res := { v := .dead, sc := [] }) (rd := []) (k := fun _ _ => .ret { v := .dead, sc := [] }) (y := .seq es true) M rfl
            obtain ⟨es', q', rd'', _, hsrc⟩ := hsrc
            generalize hvx : a.eval x = vx at hx exec
            cases hx with
            | seq p cap sz b q0 _ _ U hcap hmx hclip hp' hsz hcc hvv =>
              have hcape := hclip rfl
              subst hcape
              by_cases hes : es = []
              · subst hes
                have k1 : Each S β w [] (flat []) := ⟨rfl, by simp⟩
                obtain ⟨S', β', E, M', hv⟩ := grow_row (d := d) (cap := 0) (e := e) (z := zv) (i := i) (es := []) (ys := ys) M (hn d (by simp)) hzs (by simp) hu1 k1 k2 (by simpa using hmax)
                simp only [List.length_nil, Nat.zero_add, List.nil_append] at E M' hv hby' ⊢
                cases p with
                | none =>
                  refine ok_value (exec ?_) E (by simpa [putAll] using M') (by simpa using hv)
                  rw [hvy]
                  have := run_append_nil (P := P) w t o.type e i zv hu hi hzv ad ys.length c news hnl (fun j v h => hcn j v h) hyl (by simp only [maxLen] at hmax; simp at hmax; omega) (by omega)
                  simpa using this
                | some bp =>
                  refine ok_value (exec ?_) E (by simpa [putAll] using M') (by simpa using hv)
                  rw [hvy]
                  have := run_append_grow (P := P) w t o.type e i zv hu hi hzv bp 0 0 [] (by simp) (by simp) ad ys.length c news hnl (fun j v h => hcn j v h) (by omega) (by simp only [maxLen] at hmax; simp at hmax ⊢; omega)
                    (growslice_fits (by omega) (by simpa using hby'))
                  simpa using this
              · obtain ⟨rfl, hS⟩ := hp' hes
                have hV : V S β w (.slice (some ⟨b, q0, none⟩) es.length es.length) (.seq es true) := .seq _ es.length sz b q0 es true U hcap hmx hclip (fun _ => ⟨rfl, hS⟩) hsz hcc hvv
                obtain ⟨es2, q2, rd2, hk2, hsrc2⟩ := news_run (res := { v := .tup es, cs := [mkC True], sc := [] }) (rd := []) (k := fun l q => .ret { v := .tup l, cs := [q], sc := [] }) (y := .seq es true) M rfl
                injection hk2 with hk2; injection hk2 with hk2 _; injection hk2 with hk3 _ _ hk4 _
                injection hk3 with hk3
                subst hk3
                injection hk4 with hk4 _
                obtain ⟨p2, c2, hv2, hn2⟩ := hsrc2 _ i.size hV (by rw [hk4]; trivial) hu2
                obtain ⟨ad2, olds, hp2, k1, hco⟩ := hn2 hes
                injection hv2 with hv2 _ _
                rw [hp2] at hv2
                injection hv2 with hv2
                subst hv2
                obtain ⟨S', β', E, M', hv⟩ := grow_row (d := d) (cap := es2.length) (e := e) (z := zv) (i := i) (es := es2) (ys := ys) M (hn d (by simp)) hzs hu2 hu1 k1 k2 hmax
                refine ok_value (exec ?_) E (by simpa [putAll] using M') hv
                rw [hvy]
                exact run_append_grow (P := P) w t o.type e i zv hu hi hzv ⟨b, q0, none⟩ es2.length es2.length olds (by rw [k1.1, flat_length hu2]) (fun j v h => hco j v h) ad ys.length c news hnl (fun j v h => hcn j v h) (by omega) (by simp only [maxLen] at hmax; omega)
                  (growslice_fits (by omega) hby')
          · rename_i id off len s0 sc'
            simp only [Rd.run] at hr
            cases hl : look hp id with
            | none => rw [hl] at hr; cases hr
            | some ob =>
              rw [hl] at hr
              have hob := M.obs id ob hl
              cases ob with
              | row sz es =>
                simp only at hr
                split at hr
                · rename_i r1 l1 hk
                  injection hr with hr; injection hr with hr1 hr2
                  subst hr1
                  obtain ⟨ys, q, rd', h1, h2⟩ := news_run M hk
                  by_cases hsz : sz = i.size
                  · rw [if_pos hsz] at h1
                    injection h1 with h1; injection h1 with h1 _; subst h1
                    obtain ⟨hq, hoff, hlen, hok, hne⟩ := hc _ (List.mem_singleton.2 rfl)
                    subst hoff; subst hsz
                    have hu1 : ∀ e, e ∈ ys → e.cells.length = i.size := fun e he => (hok e he).1
                    obtain ⟨p', c, hvy, hnews⟩ := h2 _ i.size hy hq hu1
                    obtain ⟨ad, news, rfl, k2, hcn⟩ := hnews hne
                    have hnl : news.length = ys.length * i.size := by rw [k2.1, flat_length hu1]
                    have hyl : 0 < ys.length := List.length_pos_iff.2 hne
                    obtain ⟨bj, q1, q2, q3⟩ := hob
                    generalize hvx : a.eval x = vx at hx exec
                    cases hx with
                    | row _ _ _ adx bi hb hle ha =>
                      rw [hb] at q1; injection q1 with q1; subst q1
                      obtain ⟨cur, ty, r1, r2, r3, r4⟩ := q3.splice (M.own id bi hb).1 M.sub (k := len) (news := news) hlen (by rw [q2]; exact hu1) k2
                      have hcap : es.length ≤ bi.cap := by obtain ⟨_, _, _, _, h, _⟩ := q3; exact h
                      have hadx : adx = ⟨bi.blk, 0, none⟩ := by have := ha (by omega); simpa using this
                      rw [q2] at r3 r4
                      obtain ⟨E, M'⟩ := M.turn hb hl (by simp) (setRow_turns bi.blk _ rfl) (.row i.size (es.take len ++ ys ++ es.drop (len + ys.length))) ⟨bi, hb, q2, r4⟩
                      refine ok_value (exec ?_) E (by simpa [putAll] using M') (.row id 0 (len + ys.length) ⟨bi.blk, 0, none⟩ bi hb (by omega) (fun _ => by simp))
                      rw [hvy, hadx]
                      exact append_room hu hi o.type ty bi.blk len (bi.cap - 0) cur r1 ad ys.length c news hnl (fun j v h => hcn j v h) (k2.one (flat_solid hok)) (by omega) r3
                  · rw [if_neg hsz] at h1; cases h1
                · cases hr
              | _ => cases hr
          · rename_i id off len sc'
            simp only [Rd.run] at hr
            cases hl : look hp id with
            | none => rw [hl] at hr; cases hr
            | some ob =>
              rw [hl] at hr
              have hob := M.obs id ob hl
              cases ob with
              | row sz es =>
                simp only at hr
                split at hr
                · rename_i r1 l1 hk
                  injection hr with hr; injection hr with hr1 hr2
                  subst hr1
                  obtain ⟨ys, q, rd', h1, h2⟩ := news_run M hk
                  by_cases hsz : sz = i.size ∧ (id < given ∨ given ≤ d)
                  · rw [if_pos hsz] at h1
                    obtain ⟨hsz, hid⟩ := hsz
                    injection h1 with h1; injection h1 with h1 _; subst h1
                    obtain ⟨hq, hoff, hlen, hok, hoke, hby, hmax⟩ := hc _ (List.mem_singleton.2 rfl)
                    subst hoff; subst hlen; subst hsz
                    have hu1 : ∀ e, e ∈ ys → e.cells.length = i.size := fun e he => (hok e he).1
                    have hu2 : ∀ e, e ∈ es → e.cells.length = i.size := fun e he => (hoke e he).1
                    obtain ⟨p', c, hvy, hnews⟩ := h2 _ i.size hy hq hu1
                    have hby' : (es.length + ys.length) * i.bytes ≤ 140737488355328 := by
                      have : (((es.length + ys.length) * i.bytes : Nat) : Int) ≤ 140737488355328 := by rw [Int.natCast_mul]; exact hby
                      omega
                    obtain ⟨bj, q1, q2, q3⟩ := hob
                    have hnd : look hp d = none := hn d (by simp)
                    generalize hvx : a.eval x = vx at hx exec
                    cases hx with
                    | row _ _ _ adx bi hb hle ha =>
                      rw [hb] at q1; injection q1 with q1; subst q1
                      obtain ⟨cur, ty, r1, r2, r3, r4, r5, r6⟩ := q3.flat_
                      rw [q2] at r2 r5 r6
                      rw [Nat.zero_add] at hle
                      by_cases hroom : es.length + ys.length ≤ bi.cap
                      · -- there is room
                        have hnewlist : ∃ news, Each S β w news (flat ys) ∧ (Builtin.append_ #[t, t] o.type #[.slice (some adx) es.length (bi.cap - 0), a.eval y]).run P w = .ok (.slice (some adx) (es.length + ys.length) (bi.cap - 0)) (w.setRow bi.blk (cur.toList.take (es.length * i.size) ++ news ++ cur.toList.drop (es.length * i.size + news.length)).toArray) := by
                          by_cases hye : ys = []
                          · subst hye
                            refine ⟨[], ⟨rfl, by simp⟩, ?_⟩
                            rw [hvy, List.length_nil, append_same hu hi o.type (some adx) es.length (bi.cap - 0) (by omega) p' c]
                            simp only [Nat.add_zero, List.append_nil, List.length_nil, List.take_append_drop, Array.toArray_toList]
                            rw [setRow_self w bi.blk cur ty (0, 0) r1]
                          · obtain ⟨ad, news, rfl, k2, hcn⟩ := hnews hye
                            have hnl : news.length = ys.length * i.size := by rw [k2.1, flat_length hu1]
                            refine ⟨news, k2, ?_⟩
                            have hyl : 0 < ys.length := List.length_pos_iff.2 hye
                            have hadx : adx = ⟨bi.blk, 0, none⟩ := by have := ha (by omega); simpa using this
                            rw [hvy, hadx]
                            exact append_room hu hi o.type ty bi.blk es.length (bi.cap - 0) cur r1 ad ys.length c news hnl (fun j v h => hcn j v h) (k2.one (flat_solid hok)) (by omega)
                              (by rw [hnl, r2, ← Nat.add_mul]; exact Nat.mul_le_mul_right _ hroom)
                        obtain ⟨news, k2, hrun⟩ := hnewlist
                        have hnl : news.length = ys.length * i.size := by rw [k2.1, flat_length hu1]
                        have hfit : es.length * i.size + news.length ≤ cur.size := by rw [hnl, r2, ← Nat.add_mul]; exact Nat.mul_le_mul_right _ hroom
                        have hT : Turns bi w (w.setRow bi.blk (cur.toList.take (es.length * i.size) ++ news ++ cur.toList.drop (es.length * i.size + news.length)).toArray) := setRow_turns bi.blk _ rfl
                        have hagr : Agr S w (w.setRow bi.blk (cur.toList.take (es.length * i.size) ++ news ++ cur.toList.drop (es.length * i.size + news.length)).toArray) :=
                          fun b hb' => hT.other b (M.sub b hb') (fun e => (M.own id bi hb).1 (e ▸ hb'))
                        have E0 : Ext S S β (β.add d bi) w (w.setRow bi.blk (cur.toList.take (es.length * i.size) ++ news ++ cur.toList.drop (es.length * i.size + news.length)).toArray) := ⟨fun _ h => h, Beta.add_ext (M.beta_none hnd), hagr⟩
                        have hob' : HO S (β.add d bi) (w.setRow bi.blk (cur.toList.take (es.length * i.size) ++ news ++ cur.toList.drop (es.length * i.size + news.length)).toArray) d (.row i.size (es ++ ys)) := by
                          refine ⟨bi, Beta.add_same _ _ _, q2, HR.of_flat (setRow_heap w bi.blk cur _ ty (0, 0) r1) ?_ (by simpa using hroom) r4 (fun e he => ?_) ?_⟩
                          · rw [q2, ← r2]
                            simp only [List.size_toArray, List.length_append, List.length_take, List.length_drop, Array.length_toList]
                            omega
                          · rw [q2]; exact (List.mem_append.1 he).elim (hu2 e) (hu1 e)
                          · rw [q2, List.length_append, flat_append]
                            have : ((cur.toList.take (es.length * i.size) ++ news ++ cur.toList.drop (es.length * i.size + news.length)).toArray.toList.take ((es.length + ys.length) * i.size)) = cur.toList.take (es.length * i.size) ++ news := by
                              have hl2 : (es.length + ys.length) * i.size = (cur.toList.take (es.length * i.size) ++ news).length := by
                                have hcs : cur.toList.length = cur.size := Array.length_toList
                                rw [List.length_append, List.length_take, hcs, hnl, Nat.add_mul, Nat.min_eq_left (by omega)]
                              rw [hl2]
                              exact List.take_left
                            rw [this]
                            exact (r6.append k2).mono E0
                        obtain ⟨E, M'⟩ := M.adopt hid hb hl (by simp) hnd rfl hT (.row i.size (es ++ ys)) hob'
                        refine ok_value (exec hrun) E (by simpa [putAll] using M') ?_
                        exact .row d 0 (es.length + ys.length) adx bi (Beta.add_same _ _ _) (by omega) ha
                      · -- a new block
                        have hye : ys ≠ [] := by rintro rfl; simp at hroom; omega
                        obtain ⟨ad, news, rfl, k2, hcn⟩ := hnews hye
                        have hnl : news.length = ys.length * i.size := by rw [k2.1, flat_length hu1]
                        have hol : (cur.toList.take (es.length * i.size)).length = es.length * i.size := by rw [r6.1, flat_length hu2]
                        have M1 := M.kill (id := id) ⟨_, hl⟩
                        have hnd1 : look (putL hp id .dead) d = none := by
                          rw [look_put, if_neg]
                          · exact hnd
                          · rintro rfl; rw [hl] at hnd; cases hnd
                        obtain ⟨S', β', E, M', hv⟩ := grow_row (d := d) (cap := bi.cap) (e := e) (z := zv) (i := i) (es := es) (ys := ys) M1 hnd1 hzs hu2 hu1 r6 k2 hmax
                        refine ok_value (exec ?_) E (by simpa [putAll] using M') hv
                        rw [hvy, Nat.sub_zero]
                        refine run_append_grow (P := P) w t o.type e i zv hu hi hzv adx es.length bi.cap _ hol (fun j v h => ?_) ad ys.length c news hnl (fun j v h => hcn j v h) (by omega) (by simp only [maxLen] at hmax; omega) (growslice_fits (by omega) hby')
                        have hj : j < es.length * i.size := by rw [← hol]; exact (List.getElem?_eq_some_iff.1 h).1
                        have hpos : 0 < es.length := by
                          rcases Nat.eq_zero_or_pos es.length with h0 | h0
                          · rw [h0] at hj; simp at hj
                          · exact h0
                        have hadx : adx = ⟨bi.blk, 0, none⟩ := by have := ha (by omega); simpa using this
                        rw [hadx, Addr.add_lit, Nat.zero_add, cell_row r1]
                        rw [List.getElem?_take, if_pos hj, Array.getElem?_toList] at h
                        exact h
                  · rw [if_neg hsz] at h1; cases h1
                · cases hr
              | _ => cases hr
          · cases hr
        · rw [if_neg hg] at hr; cases hr

end
end Go.Ped
