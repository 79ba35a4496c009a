/-
  The engine, part 13: make; append.
-/
import Derived.Test.YthhfolohakiemaaGreatDoorSound9
set_option linter.unusedVariables false
namespace Go.Ped
open Go.RowKit

section
variable {P : Program} {F : Fr} {S : Blk} {β : Beta} {hp : List (Nat × Ob)} {w : World} {a : Act} {o : Oper} {res : Res} {rd : List Nat} {sc : List Dir}

theorem flat_replicate (z : AV) : ∀ (n : Nat), flat (List.replicate n z) = (List.replicate n z.cells).flatten := by
  intro n; simp [flat]

theorem ok_makeSlice {t : TypeId} {d : Nat} {x y : Operand} {n c : Int} (ho : o.op = .makeSlice t x y) (M : Mem F S β hp w) (hx : V S β w (a.eval x) (.int .i64 n)) (hy : V S β w (a.eval y) (.int .i64 c))
    (hr : (makeSliceA P d t n c sc).run (look hp) = some (res, rd)) (hc : ∀ c, c ∈ res.cs → c.p) (hn : ∀ id, id ∈ res.new → look hp id = none) : OpOK P F S β hp w a o res := by
  unfold makeSliceA at hr
  generalize hvx : a.eval x = vx at hx
  generalize hvy : a.eval y = vy at hy
  cases hx; cases hy
  cases hu : P.underlying t with
  | none => rw [hu] at hr; cases hr
  | some ds =>
    rw [hu] at hr
    cases ds <;> first
      | (cases hr; done)
      | skip
    rename_i e
    simp only at hr
    cases hi : P.info? e with
    | none => rw [hi] at hr; cases hr
    | some i =>
      cases hz : zeroA P e with
      | none => rw [hi, hz] at hr; cases hr
      | some z =>
        rw [hi, hz] at hr
        simp only at hr
        by_cases hg : z.cells.length = i.size ∧ 0 < i.size ∧ ¬ isDead z = true
        · rw [if_pos hg] at hr
          injection hr with hr; injection hr with hr _; subst hr
          obtain ⟨g1, g2, g3⟩ := hg
          obtain ⟨hnc, h0, hb, h63⟩ := hc _ (List.mem_singleton.2 rfl)
          subst hnc
          obtain ⟨i', zv, hi', hzv, hE⟩ := zero_each (S := S) (β := β) (w := w) hz (by simpa using g3)
          rw [hi] at hi'; injection hi' with hi'; subst hi'
          have hzs : zv.cells.size = i.size := by have := hE.1; rw [g1] at this; simpa using this
          obtain ⟨m, rfl⟩ := Int.eq_ofNat_of_zero_le h0
          have hb' : (i.bytes : Int) * (m : Int) ≤ 281474976710656 := by rw [Int.mul_comm]; omega
          have hrun := run_make (P := P) w t e i zv hu hi hzv .i64 .i64 m m h0 (Int.le_refl _) hb' h63
          rw [Int.toNat_natCast] at hrun
          have hsz : (madeCells zv.cells (m * i.size)).size = m * i.size := by simp [madeCells]
          have huni : ∀ e, e ∈ List.replicate m z → e.cells.length = i.size := by
            intro e he
            rw [(List.mem_replicate.1 he).2]; exact g1
          have hflat : Each S β w ((madeCells zv.cells (m * i.size)).toList.take (m * i.size)) (flat (List.replicate m z)) := by
            rw [List.take_of_length_le (by simp [hsz])]
            refine ⟨by rw [flat_length huni, List.length_replicate]; simp [hsz], fun j v q hv hq => ?_⟩
            have hj : j < m * i.size := by have := (List.getElem?_eq_some_iff.1 hv).1; simpa [hsz] using this
            have hjm : j % i.size < i.size := Nat.mod_lt _ g2
            have hjd : j / i.size < m := Nat.div_lt_of_lt_mul (by rw [Nat.mul_comm]; exact hj)
            have hmd : j / i.size * i.size + j % i.size = j := by rw [Nat.mul_comm]; exact Nat.div_add_mod j i.size
            have hrep : (List.replicate m z)[j / i.size]? = some z := by rw [List.getElem?_replicate, if_pos hjd]
            have hf := flat_get huni hrep hjm
            rw [hmd, hq] at hf
            have hzc : zv.cells.toList[j % i.size]? = some (zv.cells[j % i.size]'(by omega)) := by
              rw [Array.getElem?_toList]; exact Array.getElem?_eq_getElem (by omega)
            have hvv : v = zv.cells[j % i.size]'(by omega) := by
              rw [Array.getElem?_toList] at hv
              simp only [madeCells, Array.getElem?_map] at hv
              rw [Array.getElem?_range, if_pos hj] at hv
              simp only [Option.map_some] at hv
              injection hv with hv
              have e1 : j % zv.cells.size = j % i.size := by rw [hzs]
              rw [← hv, e1, getElem!_pos zv.cells (j % i.size) (by omega)]
            rw [hvv]
            exact hE.2 _ _ q hzc hf.symm
          obtain ⟨S', β', E, M', hv⟩ := new_row (d := d) (n := m) (cap := m) (sz := i.size) (es := List.replicate m z) (t := e) M (hn d (by simp)) (by simp) hsz (Nat.le_refl _) (by simp only [maxLen]; omega) huni hflat
          refine ok_value (v := .slice (some ⟨w.heap.size, 0, none⟩) m m) ?_ E (by simpa [putAll] using M') (by simpa using hv)
          simp [execOp, ho, hvx, hvy, hrun]
        · rw [if_neg hg] at hr; cases hr

/-- What is put behind: its cells. -/
theorem news_run {y : AV} {k : List AV → Cond → Rd Res} (M : Mem F S β hp w) (h : (newsA y k).run (look hp) = some (res, rd)) : ∃ ys q rd', (k ys q).run (look hp) = some (res, rd') ∧
    ∀ vy sz, V S β w vy y → q.p → (∀ e, e ∈ ys → e.cells.length = sz) → ∃ p c, vy = .slice p ys.length c ∧ (ys ≠ [] → ∃ ad news, p = some ad ∧ Each S β w news (flat ys) ∧ ∀ (j : Nat) v, news[j]? = some v → w.cell? (ad.add j) = some v) := by
  cases y with
  | seq es clip =>
    refine ⟨es, mkC True, rd, h, fun vy sz hv _ hu => ?_⟩
    cases hv with
    | seq p cap sz' b q _ _ U hcap hmax hclip hp' hsz hcc hvv =>
      refine ⟨p, cap, rfl, fun hne => ?_⟩
      obtain ⟨rfl, hS⟩ := hp' hne
      have hss : sz' = sz := by
        obtain ⟨e, l, rfl⟩ := List.exists_cons_of_ne_nil hne
        rw [← hsz 0 e rfl]; exact hu e (by simp)
      subst hss
      have hcol : ∀ m, m < es.length * sz' → ∃ u, w.cell? ⟨b, q + m, none⟩ = some u ∧ ∀ c, (flat es)[m]? = some c → V S β w u c := by
        intro m hm
        have hpos : 0 < sz' := by
          rcases Nat.eq_zero_or_pos sz' with h | h
          · rw [h] at hm; simp at hm
          · exact h
        have hi : m / sz' < es.length := Nat.div_lt_of_lt_mul (by rw [Nat.mul_comm]; exact hm)
        have hj : m % sz' < sz' := Nat.mod_lt _ hpos
        have hmd : m / sz' * sz' + m % sz' = m := by rw [Nat.mul_comm]; exact Nat.div_add_mod m sz'
        have he : es[m / sz']? = some es[m / sz'] := List.getElem?_eq_getElem hi
        have hce : es[m / sz'].cells[m % sz']? = some (es[m / sz'].cells[m % sz']'(by rw [hsz _ _ he]; exact hj)) := List.getElem?_eq_getElem _
        refine ⟨U (m / sz') (m % sz'), ?_, fun c hc => ?_⟩
        · have := hcc _ _ _ _ he hce
          rw [Nat.add_assoc, hmd] at this
          exact this
        · have hf := flat_get hu he hj
          rw [hmd, hc] at hf
          exact (hvv _ _ _ _ he hf.symm).up
      obtain ⟨news, hl, hq⟩ := collect _ hcol
      refine ⟨⟨b, q, none⟩, news, rfl, ⟨by rw [hl, flat_length hu], fun i v x h1 h2 => (hq i v h1).2 x h2⟩, fun j v hj => by rw [Addr.add_lit]; exact (hq j v hj).1⟩
  | row id off len =>
    simp only [newsA, Rd.run] at h
    cases hl : look hp id with
    | none => rw [hl] at h; cases h
    | some ob =>
      rw [hl] at h
      have hob := M.obs id ob hl
      cases ob with
      | row sz0 es =>
        simp only at h
        cases hk : (k ((es.drop off).take len) (mkC (off + len ≤ es.length))).run (look hp) with
        | none => rw [hk] at h; cases h
        | some p =>
          obtain ⟨r1, l1⟩ := p
          rw [hk] at h
          injection h with h; injection h with h1 h2
          subst h1
          refine ⟨_, _, l1, hk, fun vy sz hv hq hu => ?_⟩
          obtain ⟨bj, q1, q2, q3⟩ := hob
          cases hv with
          | row _ _ _ ad bi hb hle ha =>
            rw [hb] at q1; injection q1 with q1; subst q1
            obtain ⟨cur, ty, r1, r2, r3, r4, r5, r6⟩ := q3.flat_
            have hlen : ((es.drop off).take len).length = len := by rw [List.length_take, List.length_drop]; omega
            refine ⟨some ad, bi.cap - off, by rw [hlen], fun hne => ?_⟩
            have hpos : 0 < len := by
              rcases Nat.eq_zero_or_pos len with h | h
              · subst h; simp at hne
              · exact h
            have hss : bi.sz = sz := by
              obtain ⟨e, l, he⟩ := List.exists_cons_of_ne_nil hne
              have h1 : e ∈ (es.drop off).take len := by rw [he]; simp
              rw [← hu e h1]
              exact (r5 e (List.mem_of_mem_drop (List.mem_of_mem_take h1))).symm
            have had := ha (by omega)
            -- the whole: off elements, len elements, the rest
            have hsplit : flat es = flat (es.take off) ++ (flat ((es.drop off).take len) ++ flat ((es.drop off).drop len)) := by
              rw [← flat_append, List.take_append_drop, ← flat_append, List.take_append_drop]
            have hl1 : (flat (es.take off)).length = off * bi.sz := by
              rw [flat_length (fun e he => r5 e (List.mem_of_mem_take he)), List.length_take, Nat.min_eq_left (by omega)]
            have hl2 : (flat ((es.drop off).take len)).length = len * bi.sz := by
              rw [flat_length (fun e he => r5 e (List.mem_of_mem_drop (List.mem_of_mem_take he))), hlen]
            rw [hsplit] at r6
            have s1 := r6.split.2.split.1
            rw [hl1] at s1
            refine ⟨ad, _, rfl, s1, fun j v hj => ?_⟩
            rw [List.getElem?_take] at hj
            split at hj
            · rw [List.getElem?_drop, List.getElem?_take] at hj
              split at hj
              · rw [had, Addr.add_lit, cell_row r1]
                rw [Array.getElem?_toList] at hj
                exact hj
              · cases hj
            · cases hj
      | _ => cases h
  | _ => cases h

theorem append_same {t e : TypeId} {i : TypeInfo} (hu : P.underlying t = some (.slice e)) (hi : P.info? e = some i) (ty : TypeId) (p : Option Addr) (n cap : Nat) (hn : n ≤ cap) (q : Option Addr) (c : Nat) :
    (Builtin.append_ #[t, t] ty #[.slice p n cap, .slice q 0 c]).run P w = .ok (.slice p n cap) w := by
  cases p <;> cases q <;> simp [Builtin.append_, run_underlying hu, sizeOf, typeInfo, hi, Builtin.lenOf, hn, Builtin.firstCells, loadCells, loadCellsFrom, storeCells]

/-- Room for what is put behind. -/
theorem append_room {t e : TypeId} {i : TypeInfo} (hu : P.underlying t = some (.slice e)) (hi : P.info? e = some i) (ty tb : TypeId) (g n cap : Nat) (cur : Array Value) (hg : w.heap[g]? = some (.cells cur tb (0, 0)))
    (ad : Addr) (m c : Nat) (news : List Value) (hl : news.length = m * i.size) (hnews : ∀ (j : Nat) u, news[j]? = some u → w.cell? (ad.add j) = some u) (h1 : ∀ u, u ∈ news → u.oneCell' = true) (hroom : n + m ≤ cap) (hfit : n * i.size + news.length ≤ cur.size) :
    (Builtin.append_ #[t, t] ty #[.slice (some ⟨g, 0, none⟩) n cap, .slice (some ad) m c]).run P w =
      .ok (.slice (some ⟨g, 0, none⟩) (n + m) cap) (w.setRow g (cur.toList.take (n * i.size) ++ news ++ cur.toList.drop (n * i.size + news.length)).toArray) := by
  have hf := run_firstCells_some (P := P) w i.size m ad m c news hl hnews
  have hst := run_storeCells_at P g (n * i.size) tb news 0 cur w hg (by simpa using hfit) h1
  simp only [Nat.add_zero] at hst
  simp [Builtin.append_, run_underlying hu, sizeOf, typeInfo, hi, Builtin.lenOf, hroom, hf, Addr.add_lit, hst]

theorem Each.one {vs : List Value} {xs : List AV} (h : Each S β w vs xs) (hs : ∀ c, c ∈ xs → solid c = true) : ∀ v, v ∈ vs → v.oneCell' = true := by
  intro v hv
  obtain ⟨i, hi⟩ := List.mem_iff_getElem?.1 hv
  have hl := h.1
  have hilt : i < vs.length := (List.getElem?_eq_some_iff.1 hi).1
  have hxi : xs[i]? = some (xs[i]'(by omega)) := List.getElem?_eq_getElem (by omega)
  exact solid_one (h.2 i v _ hi hxi) (hs _ (List.mem_of_getElem? hxi))

theorem flat_solid {sz : Nat} {es : List AV} (h : ∀ e, e ∈ es → okE sz e) : ∀ c, c ∈ flat es → solid c = true := by
  intro c hc
  simp only [flat, List.mem_flatten, List.mem_map] at hc
  obtain ⟨l, ⟨e, he, rfl⟩, hcl⟩ := hc
  exact (h e he).2 c hcl

theorem flat_take {sz : Nat} {es : List AV} (h : ∀ e, e ∈ es → e.cells.length = sz) (k : Nat) (hk : k ≤ es.length) : flat (es.take k) = (flat es).take (k * sz) := by
  have h1 : flat es = flat (es.take k) ++ flat (es.drop k) := by rw [← flat_append, List.take_append_drop]
  have h2 : (flat (es.take k)).length = k * sz := by
    rw [flat_length (fun e he => h e (List.mem_of_mem_take he)), List.length_take, Nat.min_eq_left hk]
  rw [h1, ← h2, List.take_left]

theorem flat_drop {sz : Nat} {es : List AV} (h : ∀ e, e ∈ es → e.cells.length = sz) (k : Nat) (hk : k ≤ es.length) : flat (es.drop k) = (flat es).drop (k * sz) := by
  have h1 : flat es = flat (es.take k) ++ flat (es.drop k) := by rw [← flat_append, List.take_append_drop]
  have h2 : (flat (es.take k)).length = k * sz := by
    rw [flat_length (fun e he => h e (List.mem_of_mem_take he)), List.length_take, Nat.min_eq_left hk]
  rw [h1, ← h2, List.drop_left]

/-- Elements of a piece, others laid over them. -/
theorem HR.splice {bi : Bl} {es ys : List AV} (h : HR S β w bi es) (hS : ¬ S bi.blk) (hsub : ∀ b, S b → b < w.heap.size) {k : Nat} {news : List Value} (hk : k + ys.length ≤ es.length) (hys : ∀ e, e ∈ ys → e.cells.length = bi.sz) (k2 : Each S β w news (flat ys)) :
    ∃ cur t, w.heap[bi.blk]? = some (.cells cur t (0, 0)) ∧ cur.size = bi.cap * bi.sz ∧ k * bi.sz + news.length ≤ cur.size ∧
      HR S β (w.setRow bi.blk (cur.toList.take (k * bi.sz) ++ news ++ cur.toList.drop (k * bi.sz + news.length)).toArray) bi (es.take k ++ ys ++ es.drop (k + ys.length)) := by
  obtain ⟨cur, ty, r1, r2, r3, r4, r5, r6⟩ := h.flat_
  have hnl : news.length = ys.length * bi.sz := by rw [k2.1, flat_length hys]
  have hcs : cur.toList.length = cur.size := Array.length_toList
  have hfit0 : es.length * bi.sz ≤ cur.size := by rw [r2]; exact Nat.mul_le_mul_right _ r3
  have hmul : k * bi.sz + ys.length * bi.sz ≤ es.length * bi.sz := by rw [← Nat.add_mul]; exact Nat.mul_le_mul_right _ hk
  have hfit : k * bi.sz + news.length ≤ cur.size := by omega
  refine ⟨cur, ty, r1, r2, hfit, ?_⟩
  have hT : Turns bi w (w.setRow bi.blk (cur.toList.take (k * bi.sz) ++ news ++ cur.toList.drop (k * bi.sz + news.length)).toArray) := setRow_turns bi.blk _ rfl
  have E0 : Ext S S β β w (w.setRow bi.blk (cur.toList.take (k * bi.sz) ++ news ++ cur.toList.drop (k * bi.sz + news.length)).toArray) :=
    ⟨fun _ h => h, fun _ _ h => h, fun b hb' => hT.other b (hsub b hb') (fun e => hS (e ▸ hb'))⟩
  have hlen : (es.take k ++ ys ++ es.drop (k + ys.length)).length = es.length := by
    rw [List.length_append, List.length_append, List.length_take, List.length_drop]; omega
  refine HR.of_flat (setRow_heap w bi.blk cur _ ty (0, 0) r1) ?_ (by rw [hlen]; exact r3) r4 (fun e he => ?_) ?_
  · rw [← r2]
    simp only [List.size_toArray, List.length_append, List.length_take, List.length_drop, Array.length_toList]
    omega
  · rcases List.mem_append.1 he with he | he
    · rcases List.mem_append.1 he with he | he
      · exact r5 e (List.mem_of_mem_take he)
      · exact hys e he
    · exact r5 e (List.mem_of_mem_drop he)
  · rw [hlen, flat_append, flat_append, flat_take r5 k (by omega), flat_drop r5 (k + ys.length) (by omega)]
    have hl1 : (cur.toList.take (k * bi.sz)).length = k * bi.sz := by rw [List.length_take, hcs]; omega
    have h1 : ((cur.toList.take (k * bi.sz) ++ news ++ cur.toList.drop (k * bi.sz + news.length)).toArray.toList.take (es.length * bi.sz)) = cur.toList.take (k * bi.sz) ++ news ++ (cur.toList.take (es.length * bi.sz)).drop ((k + ys.length) * bi.sz) := by
      have e1 : k * bi.sz + news.length = (k + ys.length) * bi.sz := by rw [hnl, Nat.add_mul]
      rw [List.toList_toArray, List.take_append, List.drop_take, e1]
      have e2 : (cur.toList.take (k * bi.sz) ++ news).length = (k + ys.length) * bi.sz := by rw [List.length_append, hl1, e1]
      rw [e2, List.take_of_length_le (by rw [e2, Nat.add_mul]; omega)]
    rw [h1]
    have e3 : cur.toList.take (k * bi.sz) = (cur.toList.take (es.length * bi.sz)).take (k * bi.sz) := by rw [List.take_take, Nat.min_eq_left (by omega)]
    have hfin := (((r6.take (k * bi.sz)).append k2).append (r6.drop ((k + ys.length) * bi.sz))).mono E0
    rw [← e3] at hfin
    exact hfin

/-- So many zero values. -/
theorem made_flat {z : AV} {zv : Value} {sz : Nat} (hE : Each S β w zv.cells.toList z.cells) (hzs : zv.cells.size = sz) (g1 : z.cells.length = sz) (g2 : 0 < sz) (m : Nat) : Each S β w (madeCells zv.cells (m * sz)).toList (flat (List.replicate m z)) := by
  have huni : ∀ e, e ∈ List.replicate m z → e.cells.length = sz := by
    intro e he
    rw [(List.mem_replicate.1 he).2]; exact g1
  have hsz : (madeCells zv.cells (m * sz)).size = m * sz := by simp [madeCells]
  refine ⟨by rw [flat_length huni, List.length_replicate]; simp [hsz], fun j v q hv hq => ?_⟩
  have hj : j < m * sz := by have := (List.getElem?_eq_some_iff.1 hv).1; simpa [hsz] using this
  have hjm : j % sz < sz := Nat.mod_lt _ g2
  have hjd : j / sz < m := Nat.div_lt_of_lt_mul (by rw [Nat.mul_comm]; exact hj)
  have hmd : j / sz * sz + j % sz = j := by rw [Nat.mul_comm]; exact Nat.div_add_mod j sz
  have hrep : (List.replicate m z)[j / sz]? = some z := by rw [List.getElem?_replicate, if_pos hjd]
  have hf := flat_get huni hrep hjm
  rw [hmd, hq] at hf
  have hzc : zv.cells.toList[j % sz]? = some (zv.cells[j % sz]'(by omega)) := by
    rw [Array.getElem?_toList]; exact Array.getElem?_eq_getElem (by omega)
  have hvv : v = zv.cells[j % sz]'(by omega) := by
    rw [Array.getElem?_toList] at hv
    simp only [madeCells, Array.getElem?_map] at hv
    rw [Array.getElem?_range, if_pos hj] at hv
    simp only [Option.map_some] at hv
    injection hv with hv
    have e1 : j % zv.cells.size = j % sz := by rw [hzs]
    rw [← hv, e1, getElem!_pos zv.cells (j % sz) (by omega)]
  rw [hvv]
  exact hE.2 _ _ q hzc hf.symm

end
end Go.Ped
