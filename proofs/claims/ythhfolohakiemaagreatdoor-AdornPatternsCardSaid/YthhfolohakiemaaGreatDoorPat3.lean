/-
  What the callees of AdornPatterns come to, for any input: what is left of copies; the count of parts; names. And AdornPatterns itself.
-/
import Derived.Test.YthhfolohakiemaaGreatDoorPat2
import Derived.Test.YthhfolohakiemaaGreatDoorLive
set_option linter.unusedVariables false
set_option linter.unnecessarySimpa false
set_option linter.unusedSimpArgs false
namespace Go.Ped
open Go.RowKit Go.Proofs

/-- Pieces that are told again as they were. -/
theorem Spec.same {P : Program} {f : FuncId} {args : List AV} {pre upd : List (Nat × Ob)} {r : AV} (h : Spec P f args pre r upd) (hu : ∀ x, x ∈ upd → x ∈ pre) : Spec P f args pre r [] := by
  intro F S β hp w vs M hl hv hpre _
  have hput : ∀ (l : List (Nat × Ob)) (h : List (Nat × Ob)), (∀ id o, (id, o) ∈ l → look h id = some o) → ∀ k, look (putAll h l) k = look h k := by
    intro l
    induction l with
    | nil => intro h _ k; rfl
    | cons x l ih =>
      obtain ⟨i, o⟩ := x
      intro h hh k
      have h1 : ∀ k, look (putL h i o) k = look h k := by
        intro k
        rw [look_put]
        by_cases e : i = k
        · subst e; rw [if_pos rfl]; exact (hh i o (by simp)).symm
        · rw [if_neg e]
      show look (putAll (putL h i o) l) k = _
      rw [ih (putL h i o) (fun id o' hm => by rw [h1]; exact hh id o' (List.mem_cons_of_mem _ hm)) k, h1]
  refine (h F S β hp w vs M hl hv hpre (fun id o hm hno => absurd (hu _ hm) (hno o))).mono ?_
  rintro e w' ⟨v, S', β', rfl, E, M', hV⟩
  have hk := hput upd hp (fun id o hm => hpre id o (hu _ hm))
  refine ⟨v, S', β', rfl, E, ?_, hV⟩
  show Mem F S' β' hp w'
  refine ⟨M'.tab, M'.os, M'.tape, M'.output, M'.size, M'.keep, fun id o ho => M'.obs id o ((hk id).trans ho), fun id bi hb => ?_, fun i j bi bj hi hj h1 h2 he => ?_, M'.own, M'.sub, M'.base, M'.new, M'.giv⟩
  · obtain ⟨o, ho⟩ := M'.dom id bi hb
    exact ⟨o, (hk id).symm.trans ho⟩
  · exact M'.inj i j bi bj hi hj (fun o ho => h1 o ((hk i).symm.trans ho)) (fun o ho => h2 o ((hk j).symm.trans ho)) he

/-! ### What is left of copies -/

theorem st_spec (ts : List Tm) (c d : Bool) (hts : ts.length < 1000000000000) : Spec Tryz.prog 21 [.seq (ts.map Tm.av) c, .seq (ts.map Tm.av) d] [] (.bool true) [] := by
  refine Spec.pure (fn := Tryz.f21) (c := bodyOf Tryz.f21) (by kernel_rfl) (by kernel_rfl) (by kernel_rfl) (st_body ts c d ⟨by simp, ?_, trivial⟩) (.inr rfl) (by kernel_rfl) (by kernel_rfl)
  let st : Nat → St := fun i => ⟨[(0, .seq (ts.map Tm.av) c), (1, .seq (ts.map Tm.av) d), (5, .int .i64 i)], []⟩
  have main : Loops Tryz.prog 26 (loopOf Tryz.f21 0) (st 0) (.exit 0) (St.mk [] []) := by
    refine Loops.from (N := ts.length) (fun i hi => ?_) (.leave (st_end ts c d ts.length ⟨by simp, trivial⟩) (by simp))
    have hx : ts[i]? = some ts[i] := List.getElem?_eq_getElem hi
    generalize ts[i] = t at hx
    exact st_turn ts c d i t ⟨by simp; omega, ⟨by omega, get_av hx⟩, ⟨by omega, get_av hx⟩, by simp, wrap64_id (by omega) (by omega), trivial⟩
  exact Loops.keep [0, 1, 5] [] main (cs := []) (by kernel_rfl) trivial

theorem sx_spec (ks : List ByteArray) (c d : Bool) (hts : ks.length < 1000000000000000) : Spec Tryz.prog 40 [.seq (ks.map .str) c, .seq (ks.map .str) d] [] (.bool true) [] := by
  refine Spec.pure (fn := Tryz.f40) (c := bodyOf Tryz.f40) (by kernel_rfl) (by kernel_rfl) (by kernel_rfl) (sx_body ks c d ⟨by simp, ?_, trivial⟩) (.inr rfl) (by kernel_rfl) (by kernel_rfl)
  let st : Nat → St := fun i => ⟨[(0, .seq (ks.map .str) c), (1, .seq (ks.map .str) d), (5, .int .i64 i)], []⟩
  have main : Loops Tryz.prog 26 (loopOf Tryz.f40 0) (st 0) (.exit 0) (St.mk [] []) := by
    refine Loops.from (N := ks.length) (fun i hi => ?_) (.leave (sx_end ks c d ks.length ⟨by simp, trivial⟩) (by simp))
    have hx : ks[i]? = some ks[i] := List.getElem?_eq_getElem hi
    generalize ks[i] = t at hx
    have hg : (List.map AV.str ks)[Int.toNat (↑i : Int)]? = some (AV.str t) := by simpa using get_map AV.str hx
    exact sx_turn ks c d i t ⟨by simp; omega, ⟨by omega, hg⟩, ⟨by omega, hg⟩, by simp, wrap64_id (by omega) (by omega), trivial⟩
  exact Loops.keep [0, 1, 5] [] main (cs := []) (by kernel_rfl) trivial

/-- Rows for reading: one. -/
theorem thaw1 {f : FuncId} {x r : AV} {id sz n : Nat} {es : List AV} (h : Spec Tryz.prog f [.seq (es.take n) false, x] [] r []) (hr : Ped.scal r = true) (hn : noIdsL es = true) (hx : noIds x = true) (hle : n ≤ es.length) :
    Spec Tryz.prog f [.row id 0 n, x] [(id, .row sz es)] r [] := by
  have hlook : look ([(⟨id, sz, es, n⟩ : Rw)].map Rw.rn) id = some (.row (es.take n)) := by simp [Rw.rn, look]
  refine Spec.thaw [⟨id, sz, es, n⟩] h hr (fun y hy => by rw [List.mem_singleton] at hy; subst hy; exact hn) ?_ ?_
  · simp only [renL, Ped.ren, hlook]
    rw [ren_noIds _ _ hx]
  · simp only [renCL, renC, hlook]
    rw [renC_noIds _ _ hx]
    intro p hp
    simp only [List.append_nil, List.mem_singleton] at hp
    subst hp
    rw [List.length_take]; omega

theorem take_app {α β : Type} (f : α → β) (l : List α) (x : α) : (List.map f (l ++ [x])).take l.length = l.map f := by
  rw [List.map_append, List.take_append_of_le_length (by simp)]
  rw [List.take_of_length_le (by simp)]

theorem lt_spec (ts : List Tm) (c : Bool) (hts : ts.length < 1000000000000) : Spec Tryz.prog 39 [.row 300008 0 ts.length, .seq (ts.map Tm.av) c] [(300008, .row 4 ((ts ++ [mkTm]).map Tm.av))] (.bool true) [] := by
  have h1 : Spec Tryz.prog 21 [.row 300008 0 ts.length, .seq (ts.map Tm.av) c] [(300008, .row 4 ((ts ++ [mkTm]).map Tm.av))] (.bool true) [] := by
    refine thaw1 ?_ rfl (noIds_av _) rfl (by simp)
    rw [take_app]
    exact st_spec ts false c hts
  refine Spec.same (Spec.gen2 (fn := Tryz.f39) (c := bodyOf Tryz.f39) (by kernel_rfl) (by kernel_rfl) rfl rfl rfl ?_ (lt_body ts (ts ++ [mkTm]) ts.length c ⟨h1, ?_, ?_, ?_, ?_, isTerm_spec, noIds_av _, trivial⟩) (.inr rfl) (by kernel_rfl)) (fun x hx => hx)
  · intro id o hm
    rw [List.mem_singleton] at hm
    injection hm with e1 e2
    subst e2
    simp only [renOb]
    rw [renL_noIds _ _ (noIds_av _)]
  · exact wrap64_id (by omega) (by simp; omega)
  · constructor
    · omega
    · simp
  · constructor <;> simp <;> omega
  · simp only [List.length_map, Int.toNat_natCast, Nat.zero_add]
    rw [List.getElem?_map, List.getElem?_append_right (Nat.le_refl _), Nat.sub_self]
    rfl

theorem la_spec (p : ByteArray) (ts : List Tm) (c : Bool) (hts : ts.length < 1000000000000) :
    Spec Tryz.prog 12 [.agg [.str p, .row 300008 0 ts.length], .agg [.str p, .seq (ts.map Tm.av) c]] [(300008, .row 4 ((ts ++ [mkTm]).map Tm.av))] (.bool true) [] := by
  refine Spec.same (Spec.gen2 (fn := Tryz.f12) (c := bodyOf Tryz.f12) (by kernel_rfl) (by kernel_rfl) rfl rfl rfl ?_ (la_body p ts (ts ++ [mkTm]) ts.length c ⟨by simp, lt_spec ts c hts, noIds_av _, trivial⟩) (.inr rfl) (by kernel_rfl)) (fun x hx => hx)
  intro id o hm
  rw [List.mem_singleton] at hm
  injection hm with e1 e2
  subst e2
  simp only [renOb]
  rw [renL_noIds _ _ (noIds_av _)]

theorem lx_spec (ks : List ByteArray) (c : Bool) (hts : ks.length < 1000000000000000) : Spec Tryz.prog 13 [.row 400008 0 ks.length, .seq (ks.map .str) c] [(400008, .row 1 ((ks ++ [mkT]).map .str))] (.bool true) [] := by
  have h1 : Spec Tryz.prog 40 [.row 400008 0 ks.length, .seq (ks.map .str) c] [(400008, .row 1 ((ks ++ [mkT]).map .str))] (.bool true) [] := by
    refine thaw1 ?_ rfl (noIds_str _) rfl (by simp)
    rw [take_app]
    exact sx_spec ks false c hts
  refine Spec.same (Spec.gen2 (fn := Tryz.f13) (c := bodyOf Tryz.f13) (by kernel_rfl) (by kernel_rfl) rfl rfl rfl ?_ (lx_body ks (ks ++ [mkT]) ks.length c ⟨h1, ?_, ?_, ?_, ?_, isText_spec, noIds_str _, trivial⟩) (.inr rfl) (by kernel_rfl)) (fun x hx => hx)
  · intro id o hm
    rw [List.mem_singleton] at hm
    injection hm with e1 e2
    subst e2
    simp only [renOb]
    rw [renL_noIds _ _ (noIds_str _)]
  · exact wrap64_id (by omega) (by simp; omega)
  · constructor
    · omega
    · simp
  · constructor <;> simp <;> omega
  · simp only [List.length_map, Int.toNat_natCast, Nat.zero_add]
    rw [List.getElem?_map, List.getElem?_append_right (Nat.le_refl _), Nat.sub_self]
    rfl

/-! ### The count of parts -/

theorem wrap64_small {n : Int} (h1 : -9223372036854775808 ≤ n) (h2 : n < 9223372036854775808) : IntKind.wrap .i64 n = n := by
  simp only [IntKind.wrap, IntKind.bits, IntKind.signed]
  simp
  omega

theorem ep_spec (left : Int) (h0 : 0 ≤ left) (h1 : left < 1000000000000) : Spec Tryz.prog 120 [e0, .int .i64 left] [] (.int .i64 1) [] := by
  by_cases h : left = 0
  · subst h
    have hr := ep_bodyR 0 ⟨?_, trivial⟩
    · exact Spec.pure (fn := Tryz.f120) (c := bodyOf Tryz.f120) (by kernel_rfl) (by kernel_rfl) rfl hr (.inr rfl) (by kernel_rfl) rfl
    · refine Loops.keep [1, 4, 5, 6, 7] [(12, .keep 12 false)] (.leave (ep_obig 0 ⟨rfl, rfl, by simp, by simpa using wrap64_id (n := 1) (by omega) (by omega), trivial⟩) (by simp)) (cs := []) (by kernel_rfl) trivial
  · refine Spec.pure (fn := Tryz.f120) (c := bodyOf Tryz.f120) (by kernel_rfl) (by kernel_rfl) rfl (ep_body left ⟨?_, trivial⟩) (.inr rfl) (by kernel_rfl) rfl
    have hin2 : Loops Tryz.prog 75 (loopOf Tryz.f120 2) ⟨[(1, .int .i64 left), (4, .int .i64 0), (5, .int .i64 1), (6, .row 12 0 1), (7, .int .i64 0), (8, .nils), (9, .int .i64 0), (10, .int .i64 0)], [(12, .row 6 [e0])]⟩ (.exit 4) ⟨[(1, .int .i64 left), (4, .int .i64 0), (5, .int .i64 1), (6, .row 12 0 1), (7, .int .i64 0), (8, .nils), (9, .int .i64 0)], [(12, .row 6 [e0])]⟩ :=
      .leave (ep_k left ⟨by omega, rfl, rfl, trivial⟩) (by simp)
    have hin1 : Loops Tryz.prog 75 (loopOf Tryz.f120 1) ⟨[(1, .int .i64 left), (4, .int .i64 0), (5, .int .i64 1), (6, .row 12 0 1), (7, .int .i64 0), (8, .nils), (9, .int .i64 0)], [(12, .row 6 [e0])]⟩ (.exit 2) ⟨[(1, .int .i64 left), (4, .int .i64 0), (5, .int .i64 1), (7, .int .i64 0), (8, .nils)], []⟩ := by
      refine .turn (ep_i left ⟨rfl, rfl, by omega, rfl, rfl, ?_, ?_, rfl, trivial⟩) (.leave (ep_iend left ⟨rfl, trivial⟩) (by simp))
      · simp; omega
      · exact Loops.keep [1, 4, 5, 6, 7, 8, 9, 10] [(12, .keep 12 false)] hin2 (cs := []) (by kernel_rfl) trivial
    refine Loops.keep [1, 4, 5, 6, 7] [(12, .keep 12 false)] (.turn (ep_o left ⟨rfl, rfl, by simp; omega, rfl, ?_, rfl, trivial⟩) (.leave (ep_oend left ⟨rfl, trivial⟩) (by simp))) (cs := []) (by kernel_rfl) trivial
    exact Loops.keep [1, 4, 5, 6, 7, 8, 9] [(12, .keep 12 false)] hin1 (cs := []) (by kernel_rfl) trivial

/-- How many parts a literal has, counted up to a number. -/
def lpN (n : Nat) : Int := if 1048575 < 1 + (n : Int) + 1 then 1048576 else 1 + (n : Int) + 1 + 1

theorem lp_spec (p : ByteArray) (ts : List Tm) (c : Bool) (hts : ts.length < 1000000000000000) : Spec Tryz.prog 70 [lit p ts c, .int .i64 1048575] [] (.int .i64 (lpN ts.length)) [] := by
  have hl : (↑(List.length (List.map Tm.av ts)) : Int) = ts.length := by simp
  by_cases h : 1048575 < 1 + (ts.length : Int) + 1
  · have hr := lp_big p ts c 1048575 ⟨by rw [hl]; exact wrap64_id (by omega) (by omega), ep_spec 1048575 (by omega) (by omega), by rw [hl]; exact wrap64_id (by omega) (by omega), by rw [hl]; simpa using h, wrap64_id (by omega) (by omega), trivial⟩
    have e : lpN ts.length = 1048575 + 1 := by unfold lpN; rw [if_pos h]; rfl
    rw [e]
    exact Spec.pure (fn := Tryz.f70) (c := bodyOf Tryz.f70) (by kernel_rfl) (by kernel_rfl) rfl hr (.inr rfl) (by kernel_rfl) rfl
  · have hr := lp_two p ts c 1048575 ⟨by rw [hl]; exact wrap64_id (by omega) (by omega), ep_spec 1048575 (by omega) (by omega), by rw [hl]; exact wrap64_id (by omega) (by omega), by rw [hl]; simpa using h, by rw [hl]; exact wrap64_id (by omega) (by omega), ep_spec _ (by rw [hl]; omega) (by rw [hl]; omega), by rw [hl]; exact wrap64_id (by omega) (by omega), trivial⟩
    have e : lpN ts.length = 1 + (↑(List.length (List.map Tm.av ts)) : Int) + 1 + 1 := by unfold lpN; rw [if_neg h, hl]
    rw [e]
    exact Spec.pure (fn := Tryz.f70) (c := bodyOf Tryz.f70) (by kernel_rfl) (by kernel_rfl) rfl hr (.inr rfl) (by kernel_rfl) rfl

theorem lpN_bound (n : Nat) : 0 ≤ lpN n ∧ lpN n ≤ 1048577 := by
  unfold lpN
  split <;> omega

theorem rp_spec (p : ByteArray) (ts : List Tm) (c : Bool) (hts : ts.length < 1000000000000000) : Spec Tryz.prog 34 [.agg [.str ⟨#[]⟩, .nils, .seq [lit p ts c] false], .int .i64 1048576] [] (.int .i64 (1 + lpN ts.length)) [] := by
  have hb := lpN_bound ts.length
  refine Spec.pure (fn := Tryz.f34) (c := bodyOf Tryz.f34) (by kernel_rfl) (by kernel_rfl) rfl (rp_body p ts c (lpN ts.length) ⟨rfl, ?_, trivial⟩) (.inr rfl) (by kernel_rfl) rfl
  refine Loops.keep [1, 2, 4, 5, 6] [(2, .keep 2 true)] (.turn (rp_turn p ts c (lpN ts.length) ⟨rfl, rfl, ⟨by omega, rfl⟩, rfl, lp_spec p ts c hts, wrap64_id (by omega) (by omega), rfl, rfl, trivial⟩) (.leave (rp_end p ts c (lpN ts.length) ⟨rfl, trivial⟩) (by simp))) (cs := [true = true]) (by kernel_rfl) ⟨rfl, trivial⟩

theorem bl_spec (p : ByteArray) (ts : List Tm) (c : Bool) (hts : ts.length < 1000000000000000) : Spec Tryz.prog 7 [.seq [lit p ts c] false] [] (.bool (decide (1048576 < 1 + lpN ts.length))) [] :=
  Spec.pure (fn := Tryz.f7) (c := bodyOf Tryz.f7) (by kernel_rfl) (by kernel_rfl) rfl (bl_body p ts c (1 + lpN ts.length) ⟨rp_spec p ts c hts, trivial⟩) (.inr rfl) (by kernel_rfl) rfl

theorem bl_row (p : ByteArray) (ts : List Tm) (c : Bool) (hts : ts.length < 1000000000000000) : Spec Tryz.prog 7 [.row 100011 0 1] [(100011, .row 16 [lit p ts c])] (.bool (decide (1048576 < 1 + lpN ts.length))) [] :=
  Spec.thaw [⟨100011, 16, [lit p ts c], 1⟩] (bl_spec p ts c hts) rfl (fun y hy => by rw [List.mem_singleton] at hy; subst hy; rfl) rfl (by
    intro q hq
    have : renCL ([(⟨100011, 16, [lit p ts c], 1⟩ : Rw)].map Rw.rn) [.row 100011 0 1] = [1 = ([lit p ts c].take 1).length] := rfl
    rw [this, List.mem_singleton] at hq
    subst hq
    rfl)

/-! ### Names -/

def nameT (q s : ByteArray) : ByteArray := ByteArray.mk #[113, 95] ++ s ++ ByteArray.mk #[95] ++ q

theorem size_app (a b : ByteArray) : (a ++ b).size = a.size + b.size := ByteArray.size_append

theorem nm_conds (q s : ByteArray) (hq : q.size < 1000000000000000000) (hs : s.size < 1000000000000000000) :
    (2 + ByteArray.size s ≤ 9223372036854775807) ∧ (ByteArray.size (ByteArray.mk #[113, 95] ++ s) + 1 ≤ 9223372036854775807) ∧ (ByteArray.size (ByteArray.mk #[113, 95] ++ s ++ ByteArray.mk #[95]) + ByteArray.size q ≤ 9223372036854775807) := by
  have e1 : (ByteArray.mk #[113, 95]).size = 2 := rfl
  have e2 : (ByteArray.mk #[95]).size = 1 := rfl
  refine ⟨by omega, ?_, ?_⟩
  · rw [size_app, e1]; omega
  · rw [size_app, size_app, e1, e2]; omega

theorem na_spec (q s : ByteArray) (hq : q.size < 1000000000000000000) (hs : s.size < 1000000000000000000) : Spec Tryz.prog 14 [.agg [.str q, .str s]] [] (.str (nameT q s)) [] := by
  obtain ⟨h1, h2, h3⟩ := nm_conds q s hq hs
  exact Spec.pure (fn := Tryz.f14) (c := bodyOf Tryz.f14) (by kernel_rfl) (by kernel_rfl) rfl (nm_a q s ⟨h1, h2, h3, trivial⟩) (.inr rfl) (by kernel_rfl) rfl
theorem nb_spec (q s : ByteArray) (hq : q.size < 1000000000000000000) (hs : s.size < 1000000000000000000) : Spec Tryz.prog 15 [.agg [.str q, .str s]] [] (.str (nameT q s)) [] := by
  obtain ⟨h1, h2, h3⟩ := nm_conds q s hq hs
  exact Spec.pure (fn := Tryz.f15) (c := bodyOf Tryz.f15) (by kernel_rfl) (by kernel_rfl) rfl (nm_b q s ⟨h1, h2, h3, trivial⟩) (.inr rfl) (by kernel_rfl) rfl

/-! ### AdornPatterns -/

theorem pat_row (p : ByteArray) (ts : List Tm) (ks : List ByteArray) (hts : ts.length < 1000000000000) (hks : ks.length < 1000000000000000) :
    Spec Tryz.prog 10 [.agg [.str p, .row 300008 0 ts.length], .row 400008 0 ks.length] [(300008, .row 4 ((ts ++ [mkTm]).map Tm.av)), (400008, .row 1 ((ks ++ [mkT]).map .str))] (.str (patT ts ks)) [] := by
  refine Spec.thaw [⟨300008, 4, (ts ++ [mkTm]).map Tm.av, ts.length⟩, ⟨400008, 1, (ks ++ [mkT]).map .str, ks.length⟩] (pat_spec p ts false ks false hts (by omega)) rfl (fun y hy => ?_) ?_ ?_
  · simp only [List.mem_cons, List.not_mem_nil, or_false] at hy
    rcases hy with rfl | rfl
    · exact noIds_av _
    · exact noIds_str _
  · show [AV.agg [.str p, .seq (((ts ++ [mkTm]).map Tm.av).take ts.length) false], .seq (((ks ++ [mkT]).map AV.str).take ks.length) false] = _
    rw [take_app, take_app]
  · intro q hq
    have : renCL ([(⟨300008, 4, (ts ++ [mkTm]).map Tm.av, ts.length⟩ : Rw), ⟨400008, 1, (ks ++ [mkT]).map .str, ks.length⟩].map Rw.rn) [.agg [.str p, .row 300008 0 ts.length], .row 400008 0 ks.length] = [ts.length = (((ts ++ [mkTm]).map Tm.av).take ts.length).length, ks.length = (((ks ++ [mkT]).map AV.str).take ks.length).length] := rfl
    rw [this] at hq
    simp only [List.mem_cons, List.not_mem_nil, or_false] at hq
    rcases hq with rfl | rfl
    · rw [take_app]; simp
    · rw [take_app]; simp

theorem ap_spec (p : ByteArray) (ts : List Tm) (c : Bool) (ks : List ByteArray) (d : Bool) (q s : ByteArray) (hts : ts.length < 1000000000000000) (hks : ks.length ≤ 8796093022207) (hq : q.size < 1000000000000000000) (hs : s.size < 1000000000000000000) :
    ∃ upd, Spec Tryz.prog 3 [.agg [.str p, .seq (ts.map Tm.av) c], .seq (ks.map .str) d, .agg [.str q, .str s]] [] (.bool true) upd := by
  have hb := bl_row p ts c hts
  cases hd : decide (1048576 < 1 + lpN ts.length) with
  | true =>
    rw [hd] at hb
    exact ⟨_, Spec.gen2 (fn := Tryz.f3) (c := bodyOf Tryz.f3) (by kernel_rfl) (by kernel_rfl) rfl rfl rfl (fun _ _ h => by cases h) (ap_big p ts c ks d q s ⟨hb, rfl, rfl, rfl, trivial⟩) (.inr rfl) (by kernel_rfl)⟩
  | false =>
    rw [hd] at hb
    have hts : ts.length < 1000000000000 := by
      have h := of_decide_eq_false hd
      unfold lpN at h
      split at h <;> omega
    exact ⟨_, Spec.gen2 (fn := Tryz.f3) (c := bodyOf Tryz.f3) (by kernel_rfl) (by kernel_rfl) rfl rfl rfl (fun _ _ h => by cases h) (ap_main p ts (ts ++ [mkTm]) c ks (ks ++ [mkT]) d q s (patT ts ks) (nameT q s)
      ⟨hb, ta_spec p ts c hts, tx_spec ks d hks, pat_row p ts ks hts (by omega), ref_spec p ts c ks d hts (by omega), by simp, la_spec p ts c hts, lx_spec ks d (by omega), na_spec q s hq hs, nb_spec q s hq hs, by simp, lives_spec, rfl, rfl, rfl, noIds_av _, noIds_str _, trivial⟩) (.inr rfl) (by kernel_rfl)⟩

end Go.Ped
